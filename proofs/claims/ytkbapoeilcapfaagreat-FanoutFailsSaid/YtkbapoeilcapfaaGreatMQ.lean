/- Fanout: Split; what must come of every program. -/
import Derived.Test.YtkbapoeilcapfaaGreatMP
import Derived.Test.YtkbapoeilcapfaaGreatMB
import Derived.Test.YtkbapoeilcapfaaGreatMD
import Derived.Test.YtkbapoeilcapfaaGreatMG
import Derived.Test.YtkbapoeilcapfaaGreatMC
/- fanout: put. -/
namespace Go.Proofs.YtkbapoeilcapfaaGreat
open Go.RowKit Go.Maps
set_option linter.unusedVariables false
set_option linter.unusedSimpArgs false
set_option maxRecDepth 6000

section
variable {w0 w W : World} {bf bd bl : Nat} {p : FP} {C B A2 : Option Addr} {mc cc mB cB c2 : Nat} {G : Int} {d : Ds} {h : Int} {A : Option Addr} {c : Nat} {ws l1 l2 : List Wb} {q : Wb} {X : Res} {r : List V}
/-- A fan with its columns. -/
abbrev FNp (p : FP) (C : Option Addr) (mc cc bf bd bl : Nat) (G : Int) (d : Ds) (h : Int) (A : Option Addr) (c : Nat) (ws : List Wb) (X : Res) : Res := FN bf bd bl p.seed p.level (.slice C mc cc) p.R p.F G d h A c ws X
def FputP (p : FP) (C : Option Addr) (mc cc bf bd bl : Nat) (G : Int) (z : Ft) (h : Int) (A : Option Addr) (c : Nat) (w0 : World) (X : Res) (e : Ending) (w' : World) : Prop :=
  e = .returned (.int .i64 z.e) ∧ ∃ ws', In w0 w' (FNp p C mc cc bf bd bl G z.d h A c ws' X) ∧ ws'.map (·.x) = z.xs
theorem put_pick_no (g : Good X) (V : In w0 w (FNp p C mc cc bf bd bl G d h A c ws X)) (HC : ∀ W, In w0 W X → Rd1 W C mc (i64s p.cs)) (HR : ∀ W, In w0 W X → RdV W B mB r) (hb : pickOk r p.cs = false ∨ 32 < mc) :
    Calls Tryz.prog 68 #[.pointer (some ⟨bf, 0, none⟩), .slice B mB cB] w (FputP p C mc cc bf bd bl G ⟨1, d, ws.map (·.x)⟩ h A c w0 X) := by
  obtain ⟨c0, c1, c2, c3, c4, c5, c6⟩ := FN_cells V
  have CP := Lib.hid ((pick_bad (c := cB) (cc := cc) r p.cs (HR _ V.right.right.right.right) (HC _ V.right.right.right.right) hb).mono fun (e : Ending) (w' : World) hh => show e = .returned (.tuple #[.slice none 0 0, .int .i64 1]) ∧ In w0 w' (FNp p C mc cc bf bd bl G d h A c ws X) from ⟨hh.1, V.below (FN_good g) hh.2⟩)
  clear V HC HR hb
  go_enter Tryz.func68, Tryz.ntmps68
  go_wp2_with (go_at_call 98; (with_reducible refine CP.out.mono ?_); rintro e w1 ⟨rfl, V⟩; have V1 := Lib.hid V; clear V)
  go_ret
  unfold FputP
  exact ⟨by trivial, ws, V1.out, rfl⟩
/-- Pick and Part, as put calls them. -/
theorem put_pick (g : Good X) (V : In w0 w (FNp p C mc cc bf bd bl G d h A c ws X)) (HC : ∀ W, In w0 W X → Rd1 W C mc (i64s p.cs)) (HR : ∀ W, In w0 W X → RdV W B mB r) (hb : pickOk r p.cs = true) (h32 : mc ≤ 32) :
    Calls Tryz.prog 98 #[.slice B mB cB, .slice C mc cc] w fun e w' => ∃ A2 c2, e = .returned (.tuple #[.slice A2 mc c2, .int .i64 0]) ∧ RdV w' A2 mc (pickR r p.cs) ∧ (w'.cell? ⟨bf, 3, none⟩ = some (.int .u64 p.seed) ∧ w'.cell? ⟨bf, 4, none⟩ = some (.int .i64 p.level) ∧ w'.cell? ⟨bf, 6, none⟩ = some (.slice A ws.length c)) ∧ In w0 w' (FNp p C mc cc bf bd bl G d h A c ws X) := by
  have hr := HR _ V.right.right.right.right
  refine (pick_ok (c := cB) (cc := cc) r p.cs hr (HC _ V.right.right.right.right) hb h32).mono fun e w' hh => ?_
  obtain ⟨v, e1, ho, b⟩ := hh
  obtain ⟨A2, c2, rfl⟩ := own_slice ho
  have V2 := V.below (FN_good g) b
  have k := FN_cells V2
  exact ⟨A2, c2, e1, (RdV.of_own ho (pickR_str hr.str p.cs)).2, ⟨k.2.2.2.1, k.2.2.2.2.1, k.2.2.2.2.2.2⟩, V2⟩
theorem put_part (g : Good X) (V : In w0 W (FNp p C mc cc bf bd bl G d h A c ws X)) (hv : RdV W A2 mc (pickR r p.cs)) (hl : 0 ≤ p.level ∧ p.level ≤ 8) (hw : 1 ≤ ws.length ∧ ws.length ≤ 64) (hk : rowOk (pickR r p.cs) = true) :
    Calls Tryz.prog 99 #[.int .u64 p.seed, .int .i64 p.level, .int .i64 (ws.length : Int), .slice A2 mc c2] W fun e w' => e = .returned (.tuple #[.int .i64 (partI p ws.length r : Int), .int .i64 0]) ∧ (w'.cell? ⟨bf, 3, none⟩ = some (.int .u64 p.seed) ∧ w'.cell? ⟨bf, 4, none⟩ = some (.int .i64 p.level) ∧ w'.cell? ⟨bf, 6, none⟩ = some (.slice A ws.length c)) ∧ In w0 w' (FNp p C mc cc bf bd bl G d h A c ws X) := by
  refine (part_ok (c := c2) p.seed p.level ws.length (pickR r p.cs) hv hk hl.1 hl.2 (by omega) (by omega)).mono fun e w' hh => ?_
  have V2 := V.below (FN_good g) hh.2
  have k := FN_cells V2
  have hp := part_range p.seed p.level ws.length (pickR r p.cs) (by omega) (by omega)
  refine ⟨?_, ⟨k.2.2.2.1, k.2.2.2.2.1, k.2.2.2.2.2.2⟩, V2⟩
  rw [hh.1]
  unfold partI
  rw [Int.toNat_of_nonneg hp.1]
theorem put_part_no (g : Good X) (V : In w0 W (FNp p C mc cc bf bd bl G d h A c ws X)) (hv : RdV W A2 mc (pickR r p.cs)) (hl : 0 ≤ p.level ∧ p.level ≤ 8) (hw : 1 ≤ ws.length ∧ ws.length ≤ 64) (hk : rowOk (pickR r p.cs) = false) :
    Calls Tryz.prog 99 #[.int .u64 p.seed, .int .i64 p.level, .int .i64 (ws.length : Int), .slice A2 mc c2] W fun e w' => e = .returned (.tuple #[.int .i64 0, .int .i64 20]) ∧ (w'.cell? ⟨bf, 3, none⟩ = some (.int .u64 p.seed) ∧ w'.cell? ⟨bf, 4, none⟩ = some (.int .i64 p.level) ∧ w'.cell? ⟨bf, 6, none⟩ = some (.slice A ws.length c)) ∧ In w0 w' (FNp p C mc cc bf bd bl G d h A c ws X) := by
  refine (part_bad (c := c2) p.seed p.level ws.length (pickR r p.cs) hv hk hl.1 hl.2 (by omega) (by omega)).mono fun e w' hh => ?_
  have V2 := V.below (FN_good g) hh.2
  have k := FN_cells V2
  exact ⟨hh.1, ⟨k.2.2.2.1, k.2.2.2.2.1, k.2.2.2.2.2.2⟩, V2⟩
set_option maxHeartbeats 1000000 in
theorem put_part_bad (g : Good X) (V : In w0 w (FNp p C mc cc bf bd bl G d h A c ws X)) (HC : ∀ W, In w0 W X → Rd1 W C mc (i64s p.cs)) (HR : ∀ W, In w0 W X → RdV W B mB r) (hb : pickOk r p.cs = true) (h32 : mc ≤ 32) (hl : 0 ≤ p.level ∧ p.level ≤ 8) (hw : 1 ≤ ws.length ∧ ws.length ≤ 64) (hk : rowOk (pickR r p.cs) = false) :
    Calls Tryz.prog 68 #[.pointer (some ⟨bf, 0, none⟩), .slice B mB cB] w (FputP p C mc cc bf bd bl G ⟨20, d, ws.map (·.x)⟩ h A c w0 X) := by
  obtain ⟨c0, c1, c2, c3, c4, c5, c6⟩ := FN_cells V
  have CP := Lib.hid (put_pick (cB := cB) g V HC HR hb h32)
  have gF := FN_good (bf := bf) (bd := bd) (bl := bl) (seed := p.seed) (level := p.level) (cv := .slice C mc cc) (R := p.R) (F := p.F) (G := G) (d := d) (h := h) (A := A) (c := c) (ws := ws) g
  have CQ := Lib.hid (fun W A2 c2 (V : In w0 W (FNp p C mc cc bf bd bl G d h A c ws X)) (hv : RdV W A2 mc (pickR r p.cs)) => put_part_no (c2 := c2) g (in_drew gF V) (hv.below (below_drew (Below.refl _ _))) hl hw hk)
  have hn64 : ws.length ≤ 64 := hw.2
  have EF := Lib.hid (fun W (V : In w0 W (FNp p C mc cc bf bd bl G d h A c ws X)) => show FputP p C mc cc bf bd bl G ⟨20, d, ws.map (·.x)⟩ h A c w0 X (.returned (.int .i64 20)) W from ⟨rfl, ws, V, rfl⟩)
  obtain ⟨n, hnn⟩ : ∃ n, n = ws.length := ⟨_, rfl⟩
  simp only [← hnn] at CP CQ c6 hn64
  obtain ⟨seed, hs⟩ : ∃ s, s = p.seed := ⟨_, rfl⟩
  obtain ⟨level, hlv⟩ : ∃ s, s = p.level := ⟨_, rfl⟩
  simp only [← hs, ← hlv] at CP CQ c3 c4
  clear V HC HR hb h32 hl hw hk gF hnn hs hlv
  go_enter Tryz.func68, Tryz.ntmps68
  go_wp2_with (go_at_call 98; (with_reducible refine CP.out.mono ?_); rintro e w1 ⟨A2, q2, rfl, hv, ⟨k3, k4, k6⟩, V⟩; have V1 := Lib.hid (And.intro V hv); clear V CP hv)
  go_region_held3 (fun w' => w'.cell? ⟨bf, 3, none⟩ = some (.int .u64 seed) ∧ w'.cell? ⟨bf, 4, none⟩ = some (.int .i64 level) ∧ w'.cell? ⟨bf, 6, none⟩ = some (.slice A n c)) (first | go_keep | (refine ⟨?_, ?_, ?_⟩ <;> assumption)) (first
    | (go_at_call 99; (with_reducible refine (CQ.out _ _ _ V1.out.1 V1.out.2).mono ?_); rintro e w2 ⟨rfl, ⟨s3, s4, s6⟩, V⟩; have V2 := Lib.hid V; clear V))
  all_goals go_wp2
  all_goals go_ret
  all_goals exact EF.out _ V2.out
theorem split_ws {l : List Wb} {i : Nat} (hi : i < l.length) : ∃ l1 q l2, l = l1 ++ q :: l2 ∧ l1.length = i ∧ l[i]? = some q := by
  refine ⟨l.take i, l[i], l.drop (i + 1), ?_, by simp; omega, List.getElem?_eq_getElem hi⟩
  rw [← List.drop_eq_getElem_cons hi, List.take_append_drop]
set_option maxHeartbeats 1000000 in
theorem put_part_yes (g : Good X) (V : In w0 w (FNp p C mc cc bf bd bl G d h A c ws X)) (HC : ∀ W, In w0 W X → Rd1 W C mc (i64s p.cs)) (HR : ∀ W, In w0 W X → RdV W B mB r) (hb : pickOk r p.cs = true) (h32 : mc ≤ 32) (hl : 0 ≤ p.level ∧ p.level ≤ 8) (hw : 1 ≤ ws.length ∧ ws.length ≤ 64) (hk : rowOk (pickR r p.cs) = true)
    (hd : d.deeds ≤ 1000000000) (hn : ∀ q ∈ ws, q.x.n < 1000000) (hE : rowE p.cs r = 0) :
    Calls Tryz.prog 68 #[.pointer (some ⟨bf, 0, none⟩), .slice B mB cB] w (FputP p C mc cc bf bd bl G (fput p d (ws.map (·.x)) r) h A c w0 X) := by
  obtain ⟨c0, c1, c2, c3, c4, c5, c6⟩ := FN_cells V
  have CP := Lib.hid (put_pick (cB := cB) g V HC HR hb h32)
  have gF := FN_good (bf := bf) (bd := bd) (bl := bl) (seed := p.seed) (level := p.level) (cv := .slice C mc cc) (R := p.R) (F := p.F) (G := G) (d := d) (h := h) (A := A) (c := c) (ws := ws) g
  have hlt : partI p ws.length r < ws.length := by
    have := part_range p.seed p.level ws.length (pickR r p.cs) (by omega) (by omega)
    unfold partI
    omega
  obtain ⟨l1, q, l2, e1, e2, e3⟩ := split_ws hlt
  have ef : fput p d (ws.map (·.x)) r = ⟨q.x.putE p.R p.F d r, q.x.putD p.R p.F d r, (l1 ++ ⟨q.b, q.x.putX p.R p.F d r⟩ :: l2).map (·.x)⟩ := by
    have hx : (ws.map (·.x))[partI p ws.length r]? = some q.x := by rw [List.getElem?_map, e3]; rfl
    unfold fput
    rw [if_neg (by rw [hE]; decide), List.length_map, hx]
    dsimp only
    congr 1
    rw [← e2, e1]
    simp
  have CQ := Lib.hid (fun W A2 c2 (V : In w0 W (FNp p C mc cc bf bd bl G d h A c ws X)) (hv : RdV W A2 mc (pickR r p.cs)) => (put_part (c2 := c2) g (in_drew gF V) (hv.below (below_drew (Below.refl _ _))) hl hw hk).mono fun (e : Ending) (w' : World) hh => show ∃ a, A = some a ∧ w'.cell? (a.add (partI p ws.length r)) = some (wp_ q.b) ∧ e = .returned (.tuple #[.int .i64 (partI p ws.length r : Int), .int .i64 0]) ∧ (w'.cell? ⟨bf, 3, none⟩ = some (.int .u64 p.seed) ∧ w'.cell? ⟨bf, 4, none⟩ = some (.int .i64 p.level) ∧ w'.cell? ⟨bf, 6, none⟩ = some (.slice A ws.length c)) ∧ In w0 w' (FNp p C mc cc bf bd bl G d h A c ws X) from by
    obtain ⟨h1, h2, h3⟩ := hh
    have h4 := h3
    rw [e1] at h4
    obtain ⟨a, ea, ca⟩ := F_row h4
    rw [e2] at ca
    exact ⟨a, ea, ca, h1, h2, h3⟩)
  have CR := Lib.hid (fun W (V : In w0 W (FNp p C mc cc bf bd bl G d h A c ws X)) => show Calls Tryz.prog 38 #[wp_ q.b, .slice B mB cB] W fun e w' => e = .returned (.int .i64 (q.x.putE p.R p.F d r)) ∧ FputP p C mc cc bf bd bl G (fput p d (ws.map (·.x)) r) h A c w0 X (.returned (.int .i64 (q.x.putE p.R p.F d r))) w' from by
    rw [ef]
    rw [e1] at V
    refine (w_put (r := r) (cc := cB) (star_good WBs_good (FB_good g)) (F_out V) (fun W hW => HR W hW.right.right.right) hd (hn q (by rw [e1]; simp))).mono fun e w' hh => ?_
    unfold PutP at hh
    refine ⟨hh.1, ?_⟩
    unfold FputP
    exact ⟨rfl, _, F_in hh.2, rfl⟩)
  have hn64 : ws.length ≤ 64 := hw.2
  obtain ⟨n, hnn⟩ : ∃ n, n = ws.length := ⟨_, rfl⟩
  simp only [← hnn] at CP CQ c6 hn64 hlt
  obtain ⟨seed, hs⟩ : ∃ s, s = p.seed := ⟨_, rfl⟩
  obtain ⟨level, hlv⟩ : ∃ s, s = p.level := ⟨_, rfl⟩
  simp only [← hs, ← hlv] at CP CQ c3 c4
  obtain ⟨i, hi⟩ : ∃ i, i = partI p n r := ⟨_, rfl⟩
  simp only [← hi] at CQ hlt
  obtain ⟨E, hEE⟩ : ∃ E, E = q.x.putE p.R p.F d r := ⟨_, rfl⟩
  simp only [← hEE] at CR
  clear V HC HR hb h32 hl hw hk gF hnn hs hlv hi hEE ef e1 e2 e3 hd hn hE
  go_enter Tryz.func68, Tryz.ntmps68
  go_wp2_with (go_at_call 98; (with_reducible refine CP.out.mono ?_); rintro e w1 ⟨A2, q2, rfl, hv, ⟨k3, k4, k6⟩, V⟩; have V1 := Lib.hid (And.intro V hv); clear V CP hv)
  go_region_held3 (fun w' => w'.cell? ⟨bf, 3, none⟩ = some (.int .u64 seed) ∧ w'.cell? ⟨bf, 4, none⟩ = some (.int .i64 level) ∧ w'.cell? ⟨bf, 6, none⟩ = some (.slice A n c)) (first | go_keep | (refine ⟨?_, ?_, ?_⟩ <;> assumption)) (first
    | (go_at_call 99; (with_reducible refine (CQ.out _ _ _ V1.out.1 V1.out.2).mono ?_); rintro e w2 ⟨a, rfl, ca, rfl, ⟨s3, s4, s6⟩, V⟩; have V2 := Lib.hid V; clear V))
  all_goals go_wp2_with (go_at_call 38; (with_reducible refine (CR.out _ V2.out).mono ?_); rintro e w3 ⟨rfl, V⟩; have V3 := Lib.hid V; clear V)
  all_goals go_ret
  all_goals exact V3.out
/-- A row put into its part. -/
theorem fan_put (g : Good X) (V : In w0 w (FNp p C mc cc bf bd bl G d h A c ws X)) (HC : ∀ W, In w0 W X → Rd1 W C mc (i64s p.cs)) (HR : ∀ W, In w0 W X → RdV W B mB r) (hl : 0 ≤ p.level ∧ p.level ≤ 8) (hw : 1 ≤ ws.length ∧ ws.length ≤ 64) (hd : d.deeds ≤ 1000000000) (hn : ∀ q ∈ ws, q.x.n < 1000000) :
    Calls Tryz.prog 68 #[.pointer (some ⟨bf, 0, none⟩), .slice B mB cB] w (FputP p C mc cc bf bd bl G (fput p d (ws.map (·.x)) r) h A c w0 X) := by
  have hcl : p.cs.length = mc := by have := (HC _ V.right.right.right.right).1; simpa using this
  by_cases hb : pickOk r p.cs = true ∧ mc ≤ 32
  · cases hk : rowOk (pickR r p.cs) with
    | true => exact put_part_yes g V HC HR hb.1 hb.2 hl hw hk hd hn (by unfold rowE; rw [hb.1, hcl, decide_eq_true hb.2, hk]; rfl)
    | false =>
      have hE : rowE p.cs r = 20 := by unfold rowE; rw [hb.1, hcl, decide_eq_true hb.2, hk]; rfl
      have ef : fput p d (ws.map (·.x)) r = ⟨20, d, ws.map (·.x)⟩ := by unfold fput; rw [if_pos (by rw [hE]; decide), hE]
      rw [ef]
      exact put_part_bad g V HC HR hb.1 hb.2 hl hw hk
  · have hE : rowE p.cs r = 1 := by
      unfold rowE
      rw [hcl, if_neg (by simpa using hb)]
    have ef : fput p d (ws.map (·.x)) r = ⟨1, d, ws.map (·.x)⟩ := by unfold fput; rw [if_pos (by rw [hE]; decide), hE]
    rw [ef]
    refine put_pick_no g V HC HR ?_
    by_cases h32 : mc ≤ 32
    · exact .inl (by cases h : pickOk r p.cs with | false => rfl | true => exact absurd ⟨h, h32⟩ hb)
    · exact .inr (by omega)
end
end Go.Proofs.YtkbapoeilcapfaaGreat

/- fanout: each, with a fan's put. -/
namespace Go.Proofs.YtkbapoeilcapfaaGreat
open Go.RowKit Go.Maps
set_option linter.unusedVariables false
set_option linter.unusedSimpArgs false
set_option maxRecDepth 6000

section
variable {w0 w W : World} {bf bd bl br : Nat} {p : FP} {C : Option Addr} {mc cc : Nat} {G : Int} {d : Ds} {h : Int} {A : Option Addr} {c : Nat} {ws : List Wb} {X : Res} {r : List V} {y : Rs} {xs : List Ws}
theorem fput_find {q : Int} (hq : ∀ x ∈ xs, q ≠ x.file) : (fput p d xs r).d.find q = d.find q := by
  unfold fput
  split
  · rfl
  · split
    · rfl
    · next x hx => exact put_find (hq x (List.mem_of_getElem? hx))
theorem fput_xs : ∀ a ∈ (fput p d xs r).xs, ∃ x ∈ xs, a.file = x.file ∧ a.ended = x.ended ∧ a.n ≤ x.n + 1 := by
  intro a ha
  unfold fput at ha
  split at ha
  · exact ⟨a, ha, rfl, rfl, by omega⟩
  · split at ha
    · exact ⟨a, ha, rfl, rfl, by omega⟩
    · next x hx =>
      rcases List.mem_or_eq_of_mem_set ha with ha | rfl
      · exact ⟨a, ha, rfl, rfl, by omega⟩
      · have hp := put_n (R := p.R) (F := p.F) (d := d) (x := x) (r := r)
        exact ⟨x, List.mem_of_getElem? hx, hp.2.1, hp.2.2, hp.1⟩
abbrev EF (p : FP) (C : Option Addr) (mc cc bf bd bl br : Nat) (G : Int) (d : Ds) (h : Int) (A : Option Addr) (c : Nat) (y : Rs) (Q : World → Prop) (ws : List Wb) (X : Res) : Res :=
  star (PL bd bl p.R p.F G d h) (star (RR br bd bl y Q) (star (WBs bd bl ws) (FB bf bd bl p.seed p.level (.slice C mc cc) A c ws X)))
def EachFP (p : FP) (C : Option Addr) (mc cc bf bd bl : Nat) (G : Int) (z : Eft) (h : Int) (A : Option Addr) (c : Nat) (w0 : World) (X : Res) (e : Ending) (w' : World) : Prop :=
  e = .returned (.tuple #[.int .i64 z.n, .int .i64 z.e]) ∧ ∃ ws', In w0 w' (FNp p C mc cc bf bd bl G z.d h A c ws' X) ∧ ws'.map (·.x) = z.xs
/-- A state of the loop. -/
structure XSt (w0 wr : World) (p : FP) (C : Option Addr) (mc cc bf bd bl br : Nat) (G : Int) (z : Eft) (h : Int) (A : Option Addr) (c : Nat) (X : Res) (m M k : Nat) (d : Ds) (y : Rs) (ws : List Wb) (N : Int) : Prop where
  inn : In w0 wr (EF p C mc cc bf bd bl br G d (h + 1) A c y (fun _ => True) ws X)
  eqn : z = eachF p (leftN d y + 1) d y (ws.map (·.x)) (k : Int)
  left : k + leftN d y = M
  le : d.le (N + 2 * k)
  num : ∀ q ∈ ws, q.x.n ≤ N + k
  file : ∀ q ∈ ws, y.file ≠ q.x.file
  opn : y.closed = false
  len : ws.length = m
theorem map_mem_ws {P : Ws → Prop} (h : ∀ x ∈ ws.map (·.x), P x) : ∀ q ∈ ws, P q.x := fun q hq => h q.x (List.mem_map_of_mem hq)
set_option maxHeartbeats 2000000 in
theorem each_fan (g : Good X) (H : In w0 w (FNp p C mc cc bf bd bl G d h A c ws X)) (HC : ∀ W, In w0 W X → Rd1 W C mc (i64s p.cs)) {n : Int} (hw : (Lit.int .i64 n).wf = true) (hE : rrE G d h n = 0) (hf : ∀ q ∈ ws, n ≠ q.x.file) {N : Int} (hN : d.le N) (hx : ∀ q ∈ ws, q.x.n ≤ N) (h90 : N ≤ 900000) (hM : leftN d (rs0 n) ≤ 90000) (hl : 0 ≤ p.level ∧ p.level ≤ 8) (hws : 1 ≤ ws.length ∧ ws.length ≤ 64) :
    Calls Tryz.prog 67 #[pv bd bl, .int .i64 n, .func (.func 68) #[.pointer (some ⟨bf, 0, none⟩)] #[]] w (EachFP p C mc cc bf bd bl G (eachF p (leftN d (rs0 n) + 1) d (rs0 n) (ws.map (·.x)) 0) h A c w0 X) := by
  have gW : ∀ ws, Good (star (WBs bd bl ws) (FB bf bd bl p.seed p.level (.slice C mc cc) A c ws X)) := fun ws => star_good WBs_good (FB_good g)
  have H1 := in_alloc (star_good (PL_good _ _ _ _ _ _ _) (gW ws)) H (pbox bd bl)
  obtain ⟨K, h0, _⟩ := PL_ok H
  obtain ⟨M, hMM⟩ : ∃ M, M = leftN d (rs0 n) := ⟨_, rfl⟩
  rw [← hMM] at hM
  obtain ⟨m, hm⟩ : ∃ m, m = ws.length := ⟨_, rfl⟩
  rw [← hm] at hws
  obtain ⟨z, hz⟩ : ∃ z, z = eachF p (leftN d (rs0 n) + 1) d (rs0 n) (ws.map (·.x)) 0 := ⟨_, rfl⟩
  have CR : Calls Tryz.prog 41 #[pv bd bl, .int .i64 n] (w.alloc (pbox bd bl)) fun e w' => ∃ br, e = .returned (.tuple #[rp_ br, .int .i64 0]) ∧ XSt w0 w' p C mc cc bf bd bl br G z h A c X m M 0 d (rs0 n) ws N := by
    unfold rrE at hE
    cases hff : d.find n with
    | none => rw [hff] at hE; cases hE
    | some l =>
      rw [hff, if_neg (by simp)] at hE
      have hG : ¬ G ≤ h := fun hG => by rw [if_pos hG] at hE; cases hE
      refine (reader_c (gW ws) H1 hw hff hG).mono fun e w' hh => ?_
      obtain ⟨br, h1, h2⟩ := hh
      exact ⟨br, h1, h2, hz, by rw [hMM]; simp, by simpa using hN, fun q hq => by have := hx q hq; omega, hf, rfl, hm.symm⟩
  have CR := Lib.hid CR
  rw [← hz]
  have h0 := Lib.hid h0
  have HC := Lib.hid HC
  clear H H1 hE hw hN hz hMM K hx hf hm
  go_enter_defers Tryz.func67, Tryz.ntmps67
  go_wp2_with (go_at_call 41; (with_reducible refine CR.out.mono ?_); rintro e w1 ⟨br, rfl, V⟩; have V1 := Lib.hid V; clear V CR)
  go_loopw [10] (fun v wr => ∃ (k : Nat) (d' : Ds) (y : Rs) (ws' : List Wb), k ≤ M ∧ v = .int .i64 (k : Int) ∧ Hid (XSt w0 wr p C mc cc bf bd bl br G z h A c X m M k d' y ws' N)) (fun v _ => M - (intOf v).toNat)
  case atStart => exact ⟨0, _, _, _, by omega, rfl, V1⟩
  case round =>
    clear V1
    obtain ⟨k, d', y, ws', hk, rfl, HS⟩ := hrel
    have hle := HS.out.le
    have hnum := HS.out.num
    have hd1 : d'.deeds ≤ 1000000000 := by have := hle.2; omega
    have hnx : k + leftN d' y = M := HS.out.left
    have gW' := gW ws'
    have CC := Lib.hid (fun W d3 y3 ws3 (V : In w0 W (EF p C mc cc bf bd bl br G d3 (h + 1) A c y3 (fun _ => True) ws3 X)) (ho : y3.closed = false) => (r_close_d .returning (gW ws3) V).mono fun (e : Ending) u' (w' : World) hh => show u' = FrameMode.returning ∧ e = .returned (.tuple #[]) ∧ In w0 w' (FNp p C mc cc bf bd bl G d3 h A c ws3 X) from by
      obtain ⟨h1, h2, h3⟩ := hh
      have eh : y3.closeH (h + 1) = h := by unfold Rs.closeH; rw [if_neg (by rw [ho]; decide), giveH_up h0.out]
      rw [eh] at h3
      exact ⟨h1, h2, h3.drop⟩)
    have hop : (y.next p.F d').x.closed = false := by rw [next_closed]; exact HS.out.opn
    cases hr : (y.next p.F d').row with
    | some r =>
      have hlt : k < M := by
        have h2 := next_left hr
        omega
      have hd2 : (y.next p.F d').d.deeds ≤ 1000000000 := by have := (le_next (F := p.F) (y := y) hle).2; omega
      have CN := Lib.hid (r_next_some gW' HS.out.inn hd1 hr)
      have hxn : ∀ q ∈ ws', q.x.n < 1000000 := fun q hq => by have := hnum q hq; omega
      have CP := Lib.hid (fun W B mB cB (V : In w0 W (EF p C mc cc bf bd bl br G (y.next p.F d').d (h + 1) A c (y.next p.F d').x (QR B mB r) ws' X)) => (fan_put (cB := cB) (r := r) (B := B) (mB := mB) (X := star (RR br bd bl (y.next p.F d').x (QR B mB r)) X) (star_good (RR_good br bd bl (y.next p.F d').x (QR B mB r)) g) (show In w0 W (FNp p C mc cc bf bd bl G (y.next p.F d').d (h + 1) A c ws' (star (RR br bd bl (y.next p.F d').x (QR B mB r)) X)) from V.ac (by dsimp only [EF, FNp, FN, FB]; ac_rfl)) (fun W hW => HC.out W hW.right) (fun W hW => (RR_get hW).2) hl (by rw [HS.out.len]; exact hws) hd2 hxn).mono fun (e : Ending) (w' : World) hh => show e = Ending.returned (.int .i64 (fput p (y.next p.F d').d (ws'.map (·.x)) r).e) ∧ ∃ ws3, ws3.map (·.x) = (fput p (y.next p.F d').d (ws'.map (·.x)) r).xs ∧ In w0 w' (EF p C mc cc bf bd bl br G (fput p (y.next p.F d').d (ws'.map (·.x)) r).d (h + 1) A c (y.next p.F d').x (fun _ => True) ws3 X) from by
        unfold FputP at hh
        obtain ⟨h1, ws3, h2, h3⟩ := hh
        exact ⟨h1, ws3, h3, RR_imp (show In w0 w' (EF p C mc cc bf bd bl br G (fput p (y.next p.F d').d (ws'.map (·.x)) r).d (h + 1) A c (y.next p.F d').x (QR B mB r) ws3 X) from h2.ac (by dsimp only [EF, FNp, FN, FB]; ac_rfl)) (fun _ _ => trivial)⟩)
      by_cases hpe : (fput p (y.next p.F d').d (ws'.map (·.x)) r).e = 0
      · have HE := Lib.hid (fun W ws3 (e3 : ws3.map (·.x) = (fput p (y.next p.F d').d (ws'.map (·.x)) r).xs) (V : In w0 W (EF p C mc cc bf bd bl br G (fput p (y.next p.F d').d (ws'.map (·.x)) r).d (h + 1) A c (y.next p.F d').x (fun _ => True) ws3 X)) =>
          show XSt w0 W p C mc cc bf bd bl br G z h A c X m M (k + 1) (fput p (y.next p.F d').d (ws'.map (·.x)) r).d (y.next p.F d').x ws3 N from by
            have hfl : ∀ x ∈ ws'.map (·.x), (y.next p.F d').x.file ≠ x.file := fun x hx => by
              obtain ⟨q, hq, rfl⟩ := List.mem_map.1 hx
              rw [next_file]
              exact HS.out.file q hq
            have hpl : leftN (fput p (y.next p.F d').d (ws'.map (·.x)) r).d (y.next p.F d').x = leftN (y.next p.F d').d (y.next p.F d').x := by unfold leftN; rw [fput_find hfl]
            have h2 := next_left hr
            have hxs : ∀ q ∈ ws3, ∃ q0 ∈ ws', q.x.file = q0.x.file ∧ q.x.n ≤ q0.x.n + 1 := fun q hq => by
              obtain ⟨x, hx, e1, _, e2⟩ := fput_xs q.x (by rw [← e3]; exact List.mem_map_of_mem hq)
              obtain ⟨q0, hq0, rfl⟩ := List.mem_map.1 hx
              exact ⟨q0, hq0, e1, e2⟩
            refine ⟨V, ?_, by rw [hpl]; omega, ?_, fun q hq => ?_, fun q hq => ?_, hop, ?_⟩
            · have h3 := HS.out.eqn
              rw [eachF_some _ hr, if_pos hpe] at h3
              rw [h3, hpl, h2, e3]
              push_cast
              rfl
            · exact (fput_le (le_next hle)).mono (by push_cast; omega)
            · obtain ⟨q0, hq0, _, e2⟩ := hxs q hq
              have := hnum q0 hq0
              push_cast
              omega
            · obtain ⟨q0, hq0, e1, _⟩ := hxs q hq
              rw [e1, next_file]
              exact HS.out.file q0 hq0
            · have := congrArg List.length e3
              rw [fput_len, List.length_map, List.length_map] at this
              rw [this]
              exact HS.out.len)
        rw [hpe] at CP
        clear hr hpe hd1 hd2 hle hnum hnx HS CC gW gW' hop hxn
        go_wp2_with (first
          | (go_at_call 42; (with_reducible refine CN.out.mono ?_); rintro e w2 ⟨B, m2, c2, rfl, V⟩; have V2 := Lib.hid V; clear V CN)
          | (go_at_call 68; (with_reducible refine (CP.out _ _ _ _ V2.out).mono ?_); rintro e w3 ⟨rfl, ws3, e3, V⟩; have V3 := Lib.hid (HE.out _ _ e3 V); clear V e3 V2 CP HE))
        go_roundw
        case measure => simp [intOf]; omega
        case rel => exact ⟨k + 1, _, _, _, by omega, by go_num, V3⟩
      · have ez : z = ⟨(k : Int), (fput p (y.next p.F d').d (ws'.map (·.x)) r).e, (fput p (y.next p.F d').d (ws'.map (·.x)) r).d, (y.next p.F d').x, (fput p (y.next p.F d').d (ws'.map (·.x)) r).xs⟩ := by
          rw [HS.out.eqn, eachF_some _ hr, if_neg hpe]
        have hpe1 : ((fput p (y.next p.F d').d (ws'.map (·.x)) r).e != 0) = true := by simpa using hpe
        have EF_ := Lib.hid (fun W ws3 (e3 : ws3.map (·.x) = (fput p (y.next p.F d').d (ws'.map (·.x)) r).xs) (V : In w0 W (FNp p C mc cc bf bd bl G (fput p (y.next p.F d').d (ws'.map (·.x)) r).d h A c ws3 X)) => show EachFP p C mc cc bf bd bl G z h A c w0 X (.returned (.tuple #[.int .i64 (k : Int), .int .i64 (fput p (y.next p.F d').d (ws'.map (·.x)) r).e])) W from by
          unfold EachFP
          rw [ez]
          exact ⟨rfl, ws3, V, e3⟩)
        obtain ⟨T, hT⟩ : ∃ T, T = fput p (y.next p.F d').d (ws'.map (·.x)) r := ⟨_, rfl⟩
        rw [← hT] at hpe1
        simp only [← hT] at CP EF_
        obtain ⟨E, hEE⟩ : ∃ E, E = T.e := ⟨_, rfl⟩
        rw [← hEE] at hpe1
        simp only [← hEE] at CP EF_
        clear hr hpe hd1 hd2 hle hnum hnx HS gW gW' hxn ez hEE hT
        go_wp2_with (first
          | (go_at_call 42; (with_reducible refine CN.out.mono ?_); rintro e w2 ⟨B, m2, c2, rfl, V⟩; have V2 := Lib.hid V; clear V CN)
          | (go_at_call 68; (with_reducible refine (CP.out _ _ _ _ V2.out).mono ?_); rintro e w3 ⟨rfl, ws3, e3, V⟩; have V3 := Lib.hid (And.intro e3 V); clear V e3 V2 CP))
        refine leaves_cons (f := 43) (args := #[rp_ br]) (by simp) (by simp [go_sem]) ?_
        refine (CC.out _ _ _ _ V3.out.2 hop).mono ?_
        rintro e u' w4 ⟨rfl, rfl, P⟩
        refine ⟨_, results_tmp2 rfl _ _ _, ?_⟩
        exact EF_.out _ _ V3.out.1 P
    | none =>
      have ez : z = ⟨(k : Int), (y.next p.F d').e, (y.next p.F d').d, (y.next p.F d').x, ws'.map (·.x)⟩ := by rw [HS.out.eqn, eachF_none _ hr]
      have CN := Lib.hid ((r_next_none gW' HS.out.inn hd1 hr).mono fun (e : Ending) (w' : World) hh => show e = Ending.returned (.tuple #[.slice none 0 0, .bool false, .int .i64 (y.next p.F d').e]) ∧ In w0 w' (EF p C mc cc bf bd bl br G (y.next p.F d').d (h + 1) A c (y.next p.F d').x (fun _ => True) ws' X) from hh)
      have EF_ := Lib.hid (fun W (V : In w0 W (FNp p C mc cc bf bd bl G (y.next p.F d').d h A c ws' X)) => show EachFP p C mc cc bf bd bl G z h A c w0 X (.returned (.tuple #[.int .i64 (k : Int), .int .i64 (y.next p.F d').e])) W from by
        unfold EachFP
        rw [ez]
        exact ⟨rfl, ws', V, rfl⟩)
      obtain ⟨E, hEE⟩ : ∃ E, E = (y.next p.F d').e := ⟨_, rfl⟩
      simp only [← hEE] at CN EF_
      clear hr hd1 hle hnum hnx HS gW gW' ez hEE
      go_wp2_with (go_at_call 42; (with_reducible refine CN.out.mono ?_); rintro e w2 ⟨rfl, V⟩; have V2 := Lib.hid V; clear V CN)
      refine leaves_cons (f := 43) (args := #[rp_ br]) (by simp) (by simp [go_sem]) ?_
      refine (CC.out _ _ _ _ V2.out hop).mono ?_
      rintro e u' w4 ⟨rfl, rfl, P⟩
      refine ⟨_, results_tmp2 rfl _ _ _, ?_⟩
      exact EF_.out _ P
end
end Go.Proofs.YtkbapoeilcapfaaGreat

/- fanout: done. -/
namespace Go.Proofs.YtkbapoeilcapfaaGreat
open Go.RowKit Go.Maps
set_option linter.unusedVariables false
set_option linter.unusedSimpArgs false
set_option maxRecDepth 6000

/-- A row of numbers of the call's own. -/
abbrev iR (v : Value) (n : Nat) (xs : List Int) : Res := rowR 3 1 v n (i64s xs)
section
variable {w0 w W : World} {bf bd bl : Nat} {seed level : Int} {cv : Value} {R : Int} {F : List Int} {G : Int} {d : Ds} {h : Int} {A Ao : Option Addr} {c co n : Nat} {ws pre t l1 l2 : List Wb} {q : Wb} {X Y : Res} {out : List Int} {o : Value}
theorem iR_rdi {X : Res} (V : In w0 W (star (iR (.slice A n c) n out) X)) (hw : ∀ x ∈ out, (Lit.int .i64 x).wf = true) : RdI W A n out := by
  have h1 := (Rd1.of_own (V.left.get fun S h => h.1)).2
  refine ⟨by simpa using h1.1, h1.2.1, hw, fun hn => ?_⟩
  obtain ⟨ad, ea, hlt, hc⟩ := h1.2.2 hn
  exact ⟨ad, ea, hlt, fun j x hx => hc j _ (by rw [List.getElem?_map, hx]; rfl)⟩
/-- The fan with the numbers of the files that are done. -/
abbrev FO (bf bd bl : Nat) (seed level : Int) (cv : Value) (R : Int) (F : List Int) (G : Int) (d : Ds) (h : Int) (A : Option Addr) (c : Nat) (ws : List Wb) (o : Value) (out : List Int) (X : Res) : Res :=
  FN bf bd bl seed level cv R F G d h A c ws (star (iR o out.length out) X)
theorem iR_good (v : Value) (n : Nat) (xs : List Int) : Good (iR v n xs) := rowR_good _ _ _ _ _
/-- A state of done's loop. -/
structure NSt (w0 wr : World) (bf bd bl : Nat) (seed level : Int) (cv : Value) (R : Int) (F : List Int) (G : Int) (z : Dn) (A : Option Addr) (c : Nat) (X : Res) (m k : Nat) (o : Value) (N : Int) : Prop where
  ex : ∃ d h pre t out, In w0 wr (FO bf bd bl seed level cv R F G d h A c (pre ++ t) o out X) ∧ z = dnAll R F d h (pre.map (·.x)) (t.map (·.x)) out ∧ pre.length = k ∧ out.length = k ∧ (pre ++ t).length = m ∧ d.le (N + k) ∧ ∀ x ∈ out, (Lit.int .i64 x).wf = true
def DoneFP (bd bl : Nat) (R : Int) (F : List Int) (G : Int) (z : Sp) (h : Int) (w0 : World) (X : Res) (e : Ending) (w' : World) : Prop :=
  ∃ Ao co, e = .returned (.tuple #[.slice Ao z.out.length co, .int .i64 z.e]) ∧ In w0 w' (star (PL bd bl R F G z.d h) (star (iR (.slice Ao z.out.length co) z.out.length z.out) X))
theorem fo_nil (V : In w0 W (FN bf bd bl seed level cv R F G d h A c ws X)) : In w0 W (FO bf bd bl seed level cv R F G d h A c ws (.slice none 0 0) [] X) := by
  have V1 : In w0 W (star X (star (PL bd bl R F G d h) (star (WBs bd bl ws) (star (blkR bf (fanObj bd bl seed level cv (.slice A ws.length c))) (rowR 88 1 (.slice A ws.length c) ws.length (wbVs ws)))))) := V.ac (by dsimp only [FN, FB]; ac_rfl)
  have V2 := V1.imp fun S h => star_mono h (fun S h => nil_in (e := 3) h) (fun _ => id)
  exact V2.ac (by dsimp only [FO, FN, FB, iR]; ac_rfl)
theorem fo_end (V : In w0 W (FO bf bd bl seed level cv R F G d h A c ws o out X)) : In w0 W (star (PL bd bl R F G d h) (star (iR o out.length out) X)) := by
  have V1 : In w0 W (star (star (WBs bd bl ws) (star (blkR bf (fanObj bd bl seed level cv (.slice A ws.length c))) (rowR 88 1 (.slice A ws.length c) ws.length (wbVs ws)))) (star (PL bd bl R F G d h) (star (iR o out.length out) X))) := V.ac (by dsimp only [FO, FN, FB]; ac_rfl)
  exact V1.right
theorem fn_end (V : In w0 W (FN bf bd bl seed level cv R F G d h A c ws X)) : In w0 W (star (PL bd bl R F G d h) X) := by
  have V1 : In w0 W (star (star (WBs bd bl ws) (star (blkR bf (fanObj bd bl seed level cv (.slice A ws.length c))) (rowR 88 1 (.slice A ws.length c) ws.length (wbVs ws)))) (star (PL bd bl R F G d h) X)) := V.ac (by dsimp only [FN, FB]; ac_rfl)
  exact V1.right
/-- Nothing is told beside an error. -/
theorem none_end (V : In w0 W (star (PL bd bl R F G d h) X)) : In w0 W (star (PL bd bl R F G d h) (star (iR (.slice none 0 0) 0 []) X)) :=
  V.imp fun S h => star_mono h (fun _ => id) (fun S h => nil_in (e := 3) h)
set_option maxHeartbeats 2000000 in
theorem fan_done (g : Good X) (V : In w0 w (FN bf bd bl seed level cv R F G d h A c ws X)) (hn : ws.length ≤ 64) {N : Int} (hN : d.le N) (hb : N ≤ 100000000) :
    Calls Tryz.prog 70 #[.pointer (some ⟨bf, 0, none⟩)] w (DoneFP bd bl R F G (doneF R F d h (ws.map (·.x))) (doneH R F d h (ws.map (·.x))) w0 X) := by
  obtain ⟨c0, c1, c2, c3, c4, c5, c6⟩ := FN_cells V
  obtain ⟨z, hz⟩ : ∃ z, z = dnAll R F d h [] (ws.map (·.x)) [] := ⟨_, rfl⟩
  have ez : ∀ e w', DoneFP bd bl R F G (if z.e ≠ 0 then ⟨z.e, delAll (dropsDx z.d z.xs) z.out, []⟩ else ⟨0, z.d, z.out⟩) (if z.e ≠ 0 then dropsHx z.h z.xs else z.h) w0 X e w' → DoneFP bd bl R F G (doneF R F d h (ws.map (·.x))) (doneH R F d h (ws.map (·.x))) w0 X e w' := by
    intro e w' hh
    unfold doneF doneH
    rw [← hz]
    exact hh
  have EZ := Lib.hid ez
  obtain ⟨m, hm⟩ : ∃ m, m = ws.length := ⟨_, rfl⟩
  rw [← hm] at hn c6
  have HS := Lib.hid (show NSt w0 w bf bd bl seed level cv R F G z A c X m 0 (.slice none 0 0) N from ⟨d, h, [], ws, [], fo_nil V, hz, rfl, rfl, hm.symm, by simpa using hN, by simp⟩)
  clear V hz ez hN hm
  go_enter Tryz.func70, Tryz.ntmps70
  go_wp2
  go_loopw [14, 4] (fun i o wr => ∃ k : Nat, k ≤ m ∧ i = .int .i64 (k : Int) ∧ Hid (NSt w0 wr bf bd bl seed level cv R F G z A c X m k o N)) (fun i _ _ => m - (intOf i).toNat)
  case atStart => exact ⟨0, by omega, rfl, HS⟩
  case round =>
    clear HS
    obtain ⟨k, hk, rfl, HS⟩ := hrel
    obtain ⟨d', h', pre, t, out, V, ez, hl, hlo, hlm, hdd, hwf⟩ := HS.out.ex
    obtain ⟨b0, b1, b2, b3, b4, b5, b6⟩ := FN_cells V
    rw [hlm] at b6
    have hd2 : d'.deeds ≤ 1000000000 := by have := hdd.2; omega
    obtain ⟨Ao, co, ho⟩ := own_slice (V.right.right.right.right.left.get fun S h => h.1)
    rw [hlo] at ho
    subst ho
    have V : In w0 wr (FN bf bd bl seed level cv R F G d' h' A c (pre ++ t) (star (iR (.slice Ao k co) out.length out) X)) := V
    rw [hlo] at V
    by_cases hlt : k < m
    · cases t with
      | nil => rw [List.append_nil] at hlm; omega
      | cons q t =>
        obtain ⟨a, ea, ca⟩ := F_row V
        rw [hl] at ca
        subst ea
        have gX : Good (star (iR (.slice Ao k co) k out) X) := star_good (iR_good _ _ _) g
        have hqw := (WR_ok (F_out V).swap).file
        rw [List.map_cons] at ez
        have CD := w_done (star_good WBs_good (FB_good gX)) (F_out V) hd2
        by_cases hE : q.x.doneE R F d' = 0
        · rw [dn_yes hE] at ez
          have hfw : (Lit.int .i64 (q.x.doneN R F d')).wf = true := by unfold Ws.doneN; rw [if_pos hE]; exact hqw
          have CD := Lib.hid (CD.mono fun (e : Ending) (w' : World) hh => show e = .returned (.tuple #[.int .i64 (q.x.doneN R F d'), .int .i64 0]) ∧ In w0 w' (star (iR (.slice Ao k co) k out) (FN bf bd bl seed level cv R F G (q.x.doneD R F d') (q.x.endH h') (some a) c (pre ++ ⟨q.b, q.x.doneX R F d'⟩ :: t) X)) from by
            unfold DoneP at hh
            rw [hE] at hh
            exact ⟨hh.1, (F_in hh.2).ac (by dsimp only [FN, FB]; ac_rfl)⟩)
          have G1 := Lib.hid (fun w3 w4 v1 (V : In w0 w3 (star (iR (.slice Ao k co) k out) (FN bf bd bl seed level cv R F G (q.x.doneD R F d') (q.x.endH h') (some a) c (pre ++ ⟨q.b, q.x.doneX R F d'⟩ :: t) X)))
              (h1 : w4.ownsRow 0 3 1 v1 (k + 1) (i64s out ++ [.int .i64 (q.x.doneN R F d')])) (ht : Turn (fun k' => (Value.slice Ao k co).ownBlock = some k') w3 w4) (hor : v1.ownBlock = (Value.slice Ao k co).ownBlock ∨ ∃ b, v1.ownBlock = some b ∧ w3.heap.size ≤ b) =>
            show (∃ A c, v1 = .slice A (k + 1) c) ∧ NSt w0 w4 bf bd bl seed level cv R F G z (some a) c X m (k + 1) v1 N from by
            have V4 := V.grow (FN_good g) h1 ht hor
            have eo : i64s out ++ [Value.int .i64 (q.x.doneN R F d')] = i64s (out ++ [q.x.doneN R F d']) := by simp
            have el : (out ++ [q.x.doneN R F d']).length = k + 1 := by simp [hlo]
            rw [eo] at V4
            refine ⟨own_slice h1, _, _, pre ++ [⟨q.b, q.x.doneX R F d'⟩], t, _, ?_, by rw [List.map_append]; exact ez, by simp [hl], el, by simp at hlm ⊢; omega, by have := le_done (R := R) (F := F) (x := q.x) hdd; push_cast; exact this.mono (by omega), ?_⟩
            · rw [List.append_assoc]
              unfold FO
              rw [el]
              exact V4.ac (by dsimp only [FN, FB]; ac_rfl)
            · intro x hx
              rcases List.mem_append.1 hx with hx | hx
              · exact hwf x hx
              · rw [List.mem_singleton.1 hx]; exact hfw)
          obtain ⟨f, hf⟩ : ∃ f, f = q.x.doneN R F d' := ⟨_, rfl⟩
          simp only [← hf] at CD G1
          clear V ez hl hlo hlm hdd hwf hd2 gX hqw hE hfw hf HS b0 b1 b2 b3 b4 b5
          go_wp2_with (first
            | (go_at_call 40; (with_reducible refine CD.out.mono ?_); rintro e w3 ⟨rfl, V⟩; have HO := Lib.hid (V.left.get fun S h => h.1); have V3 := Lib.hid V; clear V CD)
            | (at_builtin; refine wp_append1 (W := w3) 0 rfl (.tmp 34) (.tmp 36) 22 3 (.int .i64 0) 1 8 rfl Tryz.underlying22 info_int rfl (by omega) (by omega) (.slice Ao k co) k _ [.int .i64 f] rfl rfl (by simp) rfl (by simp [Value.oneCell']) HO.out (by omega) (by omega) ?_; intro v1 w4 h4 t4 hor; obtain ⟨⟨A1, cc1, rfl⟩, D⟩ := G1.out _ _ _ V3.out h4 t4 hor; have D4 := Lib.hid D; clear h4 t4 hor V3 HO D G1))
          go_roundw
          case measure => simp [intOf]; omega
          case rel => exact ⟨k + 1, by omega, by go_num, D4⟩
        · rw [dn_no hE] at ez
          have eD : dropsD (q.x.doneD R F d') (pre ++ ⟨q.b, q.x.doneX R F d'⟩ :: t) = dropsDx z.d z.xs := by rw [dropsD_map, ez]; simp
          have eH : dropsH (q.x.endH h') (pre ++ ⟨q.b, q.x.doneX R F d'⟩ :: t) = dropsHx z.h z.xs := by rw [dropsH_map, ez]; simp
          have zo : z.out = out := by rw [ez]
          have zE : z.e = q.x.doneE R F d' := by rw [ez]
          have hlm2 : (pre ++ (⟨q.b, q.x.doneX R F d'⟩ : Wb) :: t).length = m := by simpa using hlm
          have CD := Lib.hid (CD.mono fun (e : Ending) (w' : World) hh => show e = .returned (.tuple #[.int .i64 (q.x.doneN R F d'), .int .i64 (q.x.doneE R F d')]) ∧ In w0 w' (FN bf bd bl seed level cv R F G (q.x.doneD R F d') (q.x.endH h') (some a) c (pre ++ ⟨q.b, q.x.doneX R F d'⟩ :: t) (star (iR (.slice Ao k co) k out) X)) from by
            unfold DoneP at hh
            exact ⟨hh.1, F_in hh.2⟩)
          have CE := Lib.hid (fun W (V : In w0 W (FN bf bd bl seed level cv R F G (q.x.doneD R F d') (q.x.endH h') (some a) c (pre ++ ⟨q.b, q.x.doneX R F d'⟩ :: t) (star (iR (.slice Ao k co) k out) X))) => (fan_drop gX V (by omega)).mono fun (e : Ending) (w' : World) hh => show e = .returned (.tuple #[]) ∧ (w'.cell? ⟨bf, 0, none⟩ = some (dp bd) ∧ w'.cell? ⟨bf, 1, none⟩ = some (lp bl) ∧ w'.cell? ⟨bf, 2, none⟩ = some (.int .i64 0)) ∧ In w0 w' (FN bf bd bl seed level cv R F G (dropsDx z.d z.xs) (dropsHx z.h z.xs) (some a) c (dropsX (pre ++ ⟨q.b, q.x.doneX R F d'⟩ :: t)) (star (iR (.slice Ao k co) k out) X)) from by
            obtain ⟨h1, h2⟩ := hh
            rw [eD, eH] at h2
            have k := FN_cells h2
            exact ⟨h1, ⟨k.1, k.2.1, k.2.2.1⟩, h2⟩)
          have CR := Lib.hid (fun W ws2 (V : In w0 W (FN bf bd bl seed level cv R F G (dropsDx z.d z.xs) (dropsHx z.h z.xs) (some a) c ws2 (star (iR (.slice Ao k co) k out) X))) => (s_remove (A := Ao) (n := k) (c := co) (xs := out) (star_good WBs_good (FB_good gX)) V (fun W' hW => iR_rdi hW.right.right.right hwf)).mono fun (e : Ending) (w' : World) hh => show e = .returned (.tuple #[]) ∧ DoneFP bd bl R F G (doneF R F d h (ws.map (·.x))) (doneH R F d h (ws.map (·.x))) w0 X (.returned (.tuple #[.slice none 0 0, .int .i64 (q.x.doneE R F d')])) w' from by
            refine ⟨hh.1, EZ.out _ _ ?_⟩
            rw [if_pos (by rw [zE]; exact hE), if_pos (by rw [zE]; exact hE), zE, zo]
            exact ⟨none, 0, rfl, none_end (fn_end hh.2).drop⟩)
          have hE1 : (q.x.doneE R F d' != 0) = true := by simpa using hE
          obtain ⟨E, hEE⟩ : ∃ E, E = q.x.doneE R F d' := ⟨_, rfl⟩
          simp only [← hEE] at CD CR hE1
          obtain ⟨f, hf⟩ : ∃ f, f = q.x.doneN R F d' := ⟨_, rfl⟩
          simp only [← hf] at CD
          clear V ez hl hlo hlm hlm2 hdd hwf hd2 gX hqw hE hf hEE HS b0 b1 b2 b3 b4 b5 eD eH zo zE EZ
          go_wp2_with (first
            | (go_at_call 40; (with_reducible refine CD.out.mono ?_); rintro e w3 ⟨rfl, V⟩; have V3 := Lib.hid V; clear V CD)
            | (go_at_call 69; (with_reducible refine (CE.out _ V3.out).mono ?_); rintro e w4 ⟨rfl, ⟨k0, k1, k2⟩, V⟩; have V4 := Lib.hid V; clear V CE)
            | (go_at_call 20; (with_reducible refine (CR.out _ _ V4.out).mono ?_); rintro e w5 ⟨rfl, V⟩; have V5 := Lib.hid V; clear V CR))
          go_ret2
          exact V5.out
    · obtain rfl : k = m := by omega
      have ht : t = [] := by
        cases t with
        | nil => rfl
        | cons a b => simp at hlm; omega
      subst ht
      rw [List.append_nil] at V
      have E0 := Lib.hid (show DoneFP bd bl R F G (doneF R F d h (ws.map (·.x))) (doneH R F d h (ws.map (·.x))) w0 X (.returned (.tuple #[.slice Ao k co, .int .i64 0])) wr from by
        refine EZ.out _ _ ?_
        have e0 : z = ⟨0, d', h', pre.map (·.x), out⟩ := ez
        have V' := fo_end (o := .slice Ao k co) (show In w0 wr (FO bf bd bl seed level cv R F G d' h' A c pre (.slice Ao k co) out X) from by unfold FO; rw [hlo]; exact V)
        rw [e0, if_neg (show ¬ (0 : Int) ≠ 0 by decide), if_neg (show ¬ (0 : Int) ≠ 0 by decide)]
        rw [← hlo] at V' ⊢
        exact ⟨Ao, co, rfl, V'⟩)
      clear V ez hl hlo hlm hdd hwf hd2 HS EZ
      go_wp2
      go_ret2
      exact E0.out
end
end Go.Proofs.YtkbapoeilcapfaaGreat

/- fanout: Split. -/
namespace Go.Proofs.YtkbapoeilcapfaaGreat
open Go.RowKit Go.Maps
set_option linter.unusedVariables false
set_option linter.unusedSimpArgs false
set_option maxRecDepth 6000

section
variable {w0 w W : World} {bf bd bl bp : Nat} {p : FP} {C : Option Addr} {mc cc : Nat} {G : Int} {d : Ds} {h n file N : Int} {A : Option Addr} {c m : Nat} {ws : List Wb} {X : Res} {xs : List Ws} {y : Rs}
abbrev SplitP (p : FP) (bd bl : Nat) (G : Int) (d : Ds) (h file n : Int) (w0 : World) (X : Res) (e : Ending) (w' : World) : Prop := DoneFP bd bl p.R p.F G (splitS p G d h file n) h w0 X e w'
theorem may_iff : mayB p.level n = false ↔ ¬ (0 ≤ p.level ∧ p.level ≤ 8 ∧ 1 ≤ n ∧ n ≤ 64) := by
  unfold mayB
  rw [decide_eq_false_iff_not]
/-- What is told with an error. -/
theorem split_tell {z : Sp} (e : splitS p G d h file n = z) (hz : z.out = []) (hd : z.d = d) (V : In w0 W (star (PL bd bl p.R p.F G d h) X)) : SplitP p bd bl G d h file n w0 X (.returned (.tuple #[.slice none 0 0, .int .i64 z.e])) W := by
  unfold SplitP
  rw [e]
  unfold DoneFP
  rw [hz, hd]
  exact ⟨none, 0, rfl, none_end V⟩
theorem split_arg_ (g : Good X) (V : In w0 w (star (PL bd bl p.R p.F G d h) X)) (hm : ¬ (0 ≤ p.level ∧ p.level ≤ 8 ∧ 1 ≤ n ∧ n ≤ 64)) :
    Calls Tryz.prog 29 #[pv bd bl, .int .i64 file, .int .u64 p.seed, .int .i64 p.level, .int .i64 n, .slice C mc cc] w (SplitP p bd bl G d h file n w0 X) := by
  have es : splitS p G d h file n = ⟨1, d, []⟩ := by unfold splitS; rw [if_pos (may_iff.2 hm)]
  have V1 := Lib.hid (split_tell es rfl rfl (in_alloc (star_good (PL_good _ _ _ _ _ _ _) g) V (pbox bd bl)))
  obtain ⟨level, hlv⟩ : ∃ s, s = p.level := ⟨_, rfl⟩
  rw [← hlv] at hm ⊢
  clear V es hlv
  by_cases h1 : level < 0
  · clear hm
    go_enter Tryz.func29, Tryz.ntmps29
    go_wp2
    go_ret2
    exact V1.out
  by_cases h2 : 8 < level
  · clear hm
    go_enter Tryz.func29, Tryz.ntmps29
    go_wp2
    go_ret2
    exact V1.out
  by_cases h3 : n < 1
  · clear hm
    go_enter Tryz.func29, Tryz.ntmps29
    go_wp2
    go_ret2
    exact V1.out
  have h4 : 64 < n := by omega
  clear hm
  go_enter Tryz.func29, Tryz.ntmps29
  go_wp2
  go_ret2
  exact V1.out
theorem split_none (g : Good X) (V : In w0 w (star (PL bd bl p.R p.F G d h) X)) (hm : 0 ≤ p.level ∧ p.level ≤ 8 ∧ 1 ≤ n ∧ n ≤ 64) (hw : (Lit.int .i64 file).wf = true) (hf : d.find file = none) :
    Calls Tryz.prog 29 #[pv bd bl, .int .i64 file, .int .u64 p.seed, .int .i64 p.level, .int .i64 n, .slice C mc cc] w (SplitP p bd bl G d h file n w0 X) := by
  have es : splitS p G d h file n = ⟨4, d, []⟩ := by unfold splitS; rw [if_neg (by rw [may_iff]; simpa using hm), hf]; rfl
  have hV := in_alloc (star_good (PL_good _ _ _ _ _ _ _) g) V (pbox bd bl)
  have V1 := Lib.hid (split_tell es rfl rfl hV)
  have C1 := s_size g hV hw
  rw [hf] at C1
  have C1 := Lib.hid C1
  obtain ⟨level, hlv⟩ : ∃ s, s = p.level := ⟨_, rfl⟩
  rw [← hlv] at hm ⊢
  obtain ⟨m1, m2, m3, m4⟩ := hm
  clear V es hlv hV hf hw
  go_enter Tryz.func29, Tryz.ntmps29
  go_wp2_with (go_at_call 19; (with_reducible refine C1.out.mono ?_); rintro e w1 ⟨rfl, hw⟩; obtain rfl := hw.symm; clear hw C1)
  go_ret2
  exact V1.out
theorem split_less (g : Good X) (V : In w0 w (star (PL bd bl p.R p.F G d h) X)) (hm : 0 ≤ p.level ∧ p.level ≤ 8 ∧ 1 ≤ n ∧ n ≤ 64) (hw : (Lit.int .i64 file).wf = true) {ps : List Pg} (hf : d.find file = some ps) (hG : G - h < n + 1) :
    Calls Tryz.prog 29 #[pv bd bl, .int .i64 file, .int .u64 p.seed, .int .i64 p.level, .int .i64 n, .slice C mc cc] w (SplitP p bd bl G d h file n w0 X) := by
  have es : splitS p G d h file n = ⟨60, d, []⟩ := by unfold splitS; rw [if_neg (by rw [may_iff]; simpa using hm), hf, if_neg (by simp), if_pos hG]
  obtain ⟨_, g0, g1, g2, g3⟩ := PL_ok V
  have hV := V.pushB (star_good (PL_good _ _ _ _ _ _ _) g) (pbox bd bl)
  have gB : Good (star (blkR w.heap.size (pbox bd bl)) X) := star_good (blkR_good _ _) g
  have C1 := s_size gB hV hw
  rw [hf] at C1
  have C1 := Lib.hid C1
  have C2 := Lib.hid ((s_left gB hV).mono fun (e : Ending) (w' : World) hh => show e = .returned (.int .i64 (G - h)) ∧ SplitP p bd bl G d h file n w0 X (.returned (.tuple #[.slice none 0 0, .int .i64 60])) w' from ⟨hh.1, split_tell es rfl rfl hh.2.2.drop⟩)
  obtain ⟨k0, k1, k2⟩ := bx_cells hV
  obtain ⟨level, hlv⟩ : ∃ s, s = p.level := ⟨_, rfl⟩
  rw [← hlv] at hm ⊢
  obtain ⟨m1, m2, m3, m4⟩ := hm
  clear V es hlv hV hf hw gB
  go_enter Tryz.func29, Tryz.ntmps29
  go_wp2_with (first
    | (go_at_call 19; (with_reducible refine C1.out.mono ?_); rintro e w1 ⟨rfl, hw⟩; obtain rfl := hw.symm; clear hw C1)
    | (go_at_call 23; (with_reducible refine C2.out.mono ?_); rintro e w2 ⟨rfl, V⟩; have V2 := Lib.hid V; clear V C2))
  go_ret2
  exact V2.out
theorem fn_start {seed level : Int} {cv : Value} {R : Int} {F : List Int} (V : In w0 W (star (PL bd bl R F G d h) (star (blkR bf (fanObj bd bl seed level cv (.slice none 0 0))) X))) : In w0 W (FN bf bd bl seed level cv R F G d h none 0 [] X) := by
  have V1 : In w0 W (star X (star (PL bd bl R F G d h) (blkR bf (fanObj bd bl seed level cv (.slice none 0 0))))) := V.ac (by ac_rfl)
  have V2 := V1.imp fun S h => star_mono h (fun S h => nil_in (e := 88) h) (fun _ => id)
  have V3 := V2.imp fun S h => star_comm (star_emp h)
  exact V3.ac (by dsimp only [FN, FB, WBs, each, wbVs, List.map, List.length]; ac_rfl)
set_option maxHeartbeats 2000000 in
theorem split_main (g : Good X) (V : In w0 w (star (PL bd bl p.R p.F G d h) X)) (HC : ∀ W, In w0 W X → Rd1 W C mc (i64s p.cs)) (hl : 0 ≤ p.level ∧ p.level ≤ 8) (hm : 1 ≤ m ∧ m ≤ 64) (hw : (Lit.int .i64 file).wf = true) {ps : List Pg} (hf : d.find file = some ps) (hG : (m : Int) + 1 ≤ G - h)
    (hN : d.le N) (h0N : 0 ≤ N) (hN8 : N ≤ 800000) (hL : leftN d (rs0 file) ≤ 10000) (hfs : d.fs.length ≤ 32000) :
    Calls Tryz.prog 29 #[pv bd bl, .int .i64 file, .int .u64 p.seed, .int .i64 p.level, .int .i64 (m : Int), .slice C mc cc] w (SplitP p bd bl G d h file m w0 X) := by
  obtain ⟨K, g0, g1, g2, g3⟩ := PL_ok V
  obtain ⟨FW0, hus, hfnd⟩ := cr_fw (p := p) (m := m) K (by omega) (by have := hN.1; omega)
  have hmem : file ∈ d.fs.map (·.1) := List.mem_map_of_mem (f := (·.1)) (Ds.find_mem hf)
  have hff := hfnd file hmem
  have hLe : leftN (crD m d) (rs0 file) = leftN d (rs0 file) := by unfold leftN; rw [show (rs0 file).file = file from rfl, hff]
  have hno : file ∉ (crX m d).map (·.file) := nd_not FW0.nd hmem
  obtain ⟨Z, hZ⟩ : ∃ Z, Z = eachF p (leftN (crD m d) (rs0 file) + 1) (crD m d) (rs0 file) (crX m d) 0 := ⟨_, rfl⟩
  have ZK : FK p.R Z.d (d.fs.map (·.1)) Z.xs := by rw [hZ]; exact FK.eachF _ FW0.fk
  have Zl : Z.xs.length = m := by rw [hZ, eachF_len, crX_len]
  have Zle : Z.d.le (N + m + 2 * ((leftN d (rs0 file) + 1 : Nat) : Int)) := by
    rw [hZ, hLe]
    exact eachF_le _ (crD_le m hN)
  have es : splitS p G d h file m = if Z.e ≠ 0 then ⟨Z.e, dropsDx Z.d Z.xs, []⟩ else doneF p.R p.F Z.d (h + m) Z.xs := by
    unfold splitS
    rw [if_neg (by rw [may_iff]; simp; omega), hf, if_neg (by simp), if_neg (by omega), Int.toNat_natCast, ← hZ]
  have eH : dropsHx (h + m) Z.xs = h := by rw [drops_h_all ZK.opn (by rw [Zl]; omega), Zl]; omega
  have eD : doneH p.R p.F Z.d (h + m) Z.xs = h := by rw [doneH_eq ZK.opn (by rw [Zl]; omega), Zl]; omega
  have hV := V.pushB (star_good (PL_good _ _ _ _ _ _ _) g) (pbox bd bl)
  have gB : Good (star (blkR w.heap.size (pbox bd bl)) X) := star_good (blkR_good _ _) g
  have C1 := s_size gB hV hw
  rw [hf] at C1
  have C1 := Lib.hid C1
  have C2 := Lib.hid ((s_left gB hV).mono fun (e : Ending) (w' : World) hh => show e = .returned (.int .i64 (G - h)) ∧ PB w.heap.size bd bl w' ∧ In w0 w' (star (PL bd bl p.R p.F G d h) (star (blkR w.heap.size (pbox bd bl)) X)) from by
    have hb := hh.2.2.right.left.get fun S h => h.1
    exact ⟨hh.1, ⟨cell_of_blk hb 0, cell_of_blk hb 1, cell_of_blk hb 2⟩, hh.2.2⟩)
  have C3 := Lib.hid (fun W (V : In w0 W (star (PL bd bl p.R p.F G d h) (star (blkR w.heap.size (pbox bd bl)) X))) => show Calls Tryz.prog 66 #[.pointer (some ⟨W.heap.size, 0, none⟩), .int .i64 (m : Int)] (W.alloc (fanObj bd bl p.seed p.level (.slice C mc cc) (.slice none 0 0))) fun e w' => e = .returned (.int .i64 0) ∧ ∃ A c ws, ws.map (·.x) = crX m d ∧ PB w.heap.size bd bl w' ∧ In w0 w' (FNp p C mc cc W.heap.size bd bl G (crD m d) (h + m) A c ws (star (blkR w.heap.size (pbox bd bl)) X)) from by
    have V1 := fn_start (V.pushB (star_good (PL_good _ _ _ _ _ _ _) gB) (fanObj bd bl p.seed p.level (.slice C mc cc) (.slice none 0 0)))
    refine (fan_open gB (by omega) hN.1 (by omega) V1).mono fun e w' hh => ?_
    unfold OpenP at hh
    rw [openS_cr m (by omega) (by omega)] at hh
    obtain ⟨h1, A, c, ws, h2, h3⟩ := hh
    rw [List.nil_append] at h3
    have hb := h2.right.right.right.right.left.get fun S h => h.1
    exact ⟨h1, A, c, ws, h3, ⟨cell_of_blk hb 0, cell_of_blk hb 1, cell_of_blk hb 2⟩, h2⟩)
  have C4 := Lib.hid (fun W b A c ws (e : ws.map (·.x) = crX m d) (V : In w0 W (FNp p C mc cc b bd bl G (crD m d) (h + m) A c ws (star (blkR w.heap.size (pbox bd bl)) X))) => show Calls Tryz.prog 67 #[pv bd bl, .int .i64 file, .func (.func 68) #[.pointer (some ⟨b, 0, none⟩)] #[]] W fun e w' => e = .returned (.tuple #[.int .i64 Z.n, .int .i64 Z.e]) ∧ ∃ ws', ws'.map (·.x) = Z.xs ∧ In w0 w' (FNp p C mc cc b bd bl G Z.d (h + m) A c ws' (star (blkR w.heap.size (pbox bd bl)) X)) from by
    have hlen : ws.length = m := by have := congrArg List.length e; rw [List.length_map, crX_len] at this; exact this
    have hmx : ∀ q ∈ ws, q.x ∈ crX m d := fun q hq => by rw [← e]; exact List.mem_map_of_mem hq
    have h4 := each_fan gB V (fun W hW => HC W hW.right) hw (by unfold rrE; rw [hff, hf, if_neg (by simp), if_neg (by omega)]) (fun q hq e' => hno (by rw [e']; exact List.mem_map_of_mem (hmx q hq))) (crD_le m hN) (fun q hq => by rw [(crX_opn m d _ (hmx q hq)).2]; omega) (by omega) (by rw [hLe]; omega) hl (by rw [hlen]; exact hm)
    rw [e, ← hZ] at h4
    refine h4.mono fun e w' hh => ?_
    unfold EachFP at hh
    exact ⟨hh.1, hh.2.imp fun ws' h => ⟨h.2, h.1⟩⟩)
  have C5 := Lib.hid (fun W b A c ws (hz : Z.e ≠ 0) (e : ws.map (·.x) = Z.xs) (V : In w0 W (FNp p C mc cc b bd bl G Z.d (h + m) A c ws (star (blkR w.heap.size (pbox bd bl)) X))) => show Calls Tryz.prog 69 #[.pointer (some ⟨b, 0, none⟩)] W fun e w' => e = .returned (.tuple #[]) ∧ SplitP p bd bl G d h file m w0 X (.returned (.tuple #[.slice none 0 0, .int .i64 Z.e])) w' from by
    have hlen : ws.length = m := by have := congrArg List.length e; rw [List.length_map, Zl] at this; exact this
    refine (fan_drop gB V (by omega)).mono fun e' w' hh => ?_
    obtain ⟨h1, h2⟩ := hh
    rw [dropsD_map, dropsH_map, e, eH] at h2
    refine ⟨h1, ?_⟩
    unfold SplitP
    rw [es, if_pos hz]
    exact ⟨none, 0, rfl, none_end (fn_end h2).drop⟩)
  have C6 := Lib.hid (fun W b A c ws (hz : Z.e = 0) (e : ws.map (·.x) = Z.xs) (V : In w0 W (FNp p C mc cc b bd bl G Z.d (h + m) A c ws (star (blkR w.heap.size (pbox bd bl)) X))) => show Calls Tryz.prog 70 #[.pointer (some ⟨b, 0, none⟩)] W fun e w' => ∃ v E, e = .returned (.tuple #[v, .int .i64 E]) ∧ SplitP p bd bl G d h file m w0 X (.returned (.tuple #[v, .int .i64 E])) w' from by
    have hlen : ws.length = m := by have := congrArg List.length e; rw [List.length_map, Zl] at this; exact this
    refine (fan_done gB V (by omega) Zle (by omega)).mono fun e' w' hh => ?_
    rw [e, eD] at hh
    obtain ⟨Ao, co, h1, h2⟩ := hh
    refine ⟨_, _, h1, ?_⟩
    unfold SplitP
    rw [es, if_neg (by simpa using hz)]
    have h3 : In w0 w' (star (blkR w.heap.size (pbox bd bl)) (star (PL bd bl p.R p.F G (doneF p.R p.F Z.d (h + m) Z.xs).d h) (star (iR (.slice Ao (doneF p.R p.F Z.d (h + m) Z.xs).out.length co) (doneF p.R p.F Z.d (h + m) Z.xs).out.length (doneF p.R p.F Z.d (h + m) Z.xs).out) X))) := h2.ac (by ac_rfl)
    exact ⟨Ao, co, rfl, h3.right⟩)
  obtain ⟨k0, k1, k2⟩ := bx_cells hV
  obtain ⟨hl1, hl2⟩ := hl
  obtain ⟨hm1, hm2⟩ := hm
  obtain ⟨seed, hsd⟩ : ∃ s, s = p.seed := ⟨_, rfl⟩
  obtain ⟨level, hlv⟩ : ∃ s, s = p.level := ⟨_, rfl⟩
  rw [← hlv] at hl1 hl2
  simp only [← hsd, ← hlv] at C3 ⊢
  clear V HC hw hf hN h0N hN8 hL hfs K FW0 hus hfnd hmem hff hLe hno hZ ZK Zl Zle es eH eD hV gB hsd hlv
  by_cases hz : Z.e = 0
  · have C6 := Lib.hid (fun W b A c ws e V => C6.out W b A c ws hz e V)
    rw [hz] at C4
    clear C5
    go_enter Tryz.func29, Tryz.ntmps29
    go_wp2_with (first
      | (go_at_call 19; (with_reducible refine C1.out.mono ?_); rintro e w1 ⟨rfl, hw⟩; obtain rfl := hw.symm; clear hw C1)
      | (go_at_call 23; (with_reducible refine C2.out.mono ?_); rintro e w2 ⟨rfl, ⟨j0, j1, j2⟩, V⟩; have V2 := Lib.hid V; clear V C2)
      | (go_at_call 66; (with_reducible refine (C3.out _ V2.out).mono ?_); rintro e w3 ⟨rfl, A3, c3, ws3, e3, ⟨i0, i1, i2⟩, V⟩; have V3 := Lib.hid (And.intro e3 V); clear V e3 C3)
      | (go_at_call 67; (with_reducible refine (C4.out _ _ _ _ _ V3.out.1 V3.out.2).mono ?_); rintro e w4 ⟨rfl, ws4, e4, V⟩; have V4 := Lib.hid (And.intro e4 V); clear V e4 C4)
      | (go_at_call 70; (with_reducible refine (C6.out _ _ _ _ _ V4.out.1 V4.out.2).mono ?_); rintro e w5 ⟨v, E, rfl, V⟩; have V5 := Lib.hid V; clear V C6))
    go_ret2
    exact V5.out
  · have C5 := Lib.hid (fun W b A c ws e V => C5.out W b A c ws hz e V)
    have hz1 : (Z.e != 0) = true := by simpa using hz
    obtain ⟨E, hE⟩ : ∃ E, E = Z.e := ⟨_, rfl⟩
    rw [← hE] at hz1 hz
    simp only [← hE] at C4 C5
    have hz2 : (E == 0) = false := by simpa using hz
    clear C6 hE hz
    go_enter Tryz.func29, Tryz.ntmps29
    go_wp2_with (first
      | (go_at_call 19; (with_reducible refine C1.out.mono ?_); rintro e w1 ⟨rfl, hw⟩; obtain rfl := hw.symm; clear hw C1)
      | (go_at_call 23; (with_reducible refine C2.out.mono ?_); rintro e w2 ⟨rfl, ⟨j0, j1, j2⟩, V⟩; have V2 := Lib.hid V; clear V C2)
      | (go_at_call 66; (with_reducible refine (C3.out _ V2.out).mono ?_); rintro e w3 ⟨rfl, A3, c3, ws3, e3, ⟨i0, i1, i2⟩, V⟩; have V3 := Lib.hid (And.intro e3 V); clear V e3 C3)
      | (go_at_call 67; (with_reducible refine (C4.out _ _ _ _ _ V3.out.1 V3.out.2).mono ?_); rintro e w4 ⟨rfl, ws4, e4, V⟩; have V4 := Lib.hid (And.intro e4 V); clear V e4 C4)
      | (go_at_call 69; (with_reducible refine (C5.out _ _ _ _ _ V4.out.1 V4.out.2).mono ?_); rintro e w5 ⟨rfl, V⟩; have V5 := Lib.hid V; clear V C5))
    go_ret2
    exact V5.out
end
end Go.Proofs.YtkbapoeilcapfaaGreat

/- fanout: All, with the capacity of what it gives (printed by mkFx.py from p/Ra). -/
namespace Go.Proofs.YtkbapoeilcapfaaGreat
open Go.RowKit Go.Maps
set_option linter.unusedVariables false
set_option linter.unusedSimpArgs false
set_option maxRecDepth 6000

def AllC (bd bl : Nat) (R : Int) (F : List Int) (G : Int) (z : Rt) (h : Int) (w0 : World) (Fr : Res) (e : Ending) (w' : World) : Prop :=
  if z.e ≠ 0 then e = .returned (.tuple #[.slice none 0 0, .int .i64 z.e]) ∧ In w0 w' (star (PL bd bl R F G z.d h) Fr)
  else ∃ B c hds, e = .returned (.tuple #[.slice B z.l.length c, .int .i64 0]) ∧ z.l.length ≤ c ∧ In w0 w' (star (PL bd bl R F G z.d h) (star (rd (fun W => RdL W B z.l.length hds z.l)) Fr))
section
variable {w0 w : World} {bd bl br : Nat} {R : Int} {F : List Int} {G : Int} {d : Ds} {h : Int} {y : Rs} {Q Q' : World → Prop} {Fr A X : Res}
set_option maxHeartbeats 1000000 in
theorem all_cap (g : Good Fr) (H : In w0 w (star (PL bd bl R F G d h) Fr)) {n : Int} (hw : (Lit.int .i64 n).wf = true) (hE : rrE G d h n = 0) {N : Int} (hN : d.le N) (hb : N + 3000000 ≤ 1000000000) :
    Calls Tryz.prog 16 #[pv bd bl, .int .i64 n] w (AllC bd bl R F G (allS F d n) h w0 Fr) := by
  have H1 := in_alloc (star_good (PL_good _ _ _ _ _ _ _) g) H (pbox bd bl)
  obtain ⟨K, h0, _⟩ := PL_ok H
  obtain ⟨M, hM⟩ : ∃ M, M = leftN d (rs0 n) := ⟨_, rfl⟩
  have hMb : M ≤ 3000000 := by rw [hM]; exact left_le K (by simp)
  obtain ⟨z, hz⟩ : ∃ z, z = allS F d n := ⟨_, rfl⟩
  have CR : Calls Tryz.prog 41 #[pv bd bl, .int .i64 n] (w.alloc (pbox bd bl)) fun e w' => ∃ br, e = .returned (.tuple #[rp_ br, .int .i64 0]) ∧ ASt w0 w' bd bl br R F G z h Fr M 0 (.slice none 0 0) [] [] d (rs0 n) N := by
    unfold rrE at hE
    cases hf : d.find n with
    | none => rw [hf] at hE; cases hE
    | some l =>
      rw [hf, if_neg (by simp)] at hE
      have hG : ¬ G ≤ h := fun hG => by rw [if_pos hG] at hE; cases hE
      refine (reader_c g H1 hw hf hG).mono fun e w' hh => ?_
      obtain ⟨br, h1, h2⟩ := hh
      refine ⟨br, h1, ?_, ?_, by rw [hM]; simp, rfl, by simpa using hN, rfl⟩
      · have h3 := RR_imp (Q' := fun W => RdAcc W [] []) h2 (fun w _ => ⟨rfl, fun i r hr => by simp at hr⟩)
        exact (h3.assoc'.nilrow).assoc
      · rw [hz]
        rfl
  have CR := Lib.hid CR
  rw [← hz]
  clear H H1 hE hw hN hz hM K
  have h0 := Lib.hid h0
  go_enter_defers Tryz.func16, Tryz.ntmps16
  go_wp2_with (go_at_call 41; (with_reducible refine CR.out.mono ?_); rintro e w1 ⟨br, rfl, V⟩; have V1 := Lib.hid V; clear V CR)
  go_loopw [8] (fun v wr => ∃ (k : Nat) (B : Option Addr) (c : Nat) (hds : List Value) (acc : List (List V)) (d' : Ds) (y : Rs), k ≤ M ∧ v = .slice B k c ∧ Hid (ASt w0 wr bd bl br R F G z h Fr M k (.slice B k c) hds acc d' y N)) (fun v _ => M - lenOf v)
  case atStart => exact ⟨0, _, _, _, _, _, _, by omega, rfl, V1⟩
  case round =>
    clear V1
    obtain ⟨k, B, c, hds, acc, d', y, hk, rfl, HS⟩ := hrel
    have hle := HS.out.le
    have hd1 : d'.deeds ≤ 1000000000 := by have := hle.2; omega
    cases hr : (y.next F d').row with
    | some r =>
      have hlt : k < M := by
        have h1 := HS.out.left
        have h2 := next_left hr
        omega
      have gR : Good (star (rowR 25 1 (.slice B k c) k hds) Fr) := star_good (rowR_good _ _ _ _ _) g
      have CN := Lib.hid ((r_next_some gR HS.out.inn hd1 hr).mono fun (e : Ending) (w' : World) hh => show ∃ B2 m2 c2, e = .returned (.tuple #[.slice B2 m2 c2, .bool true, .int .i64 0]) ∧ In w0 w' (star (rowR 25 1 (.slice B k c) k hds) (star (PL bd bl R F G (y.next F d').d (h + 1)) (star (RR br bd bl (y.next F d').x (fun W => RdAcc W (hds ++ [.slice B2 m2 c2]) (acc ++ [r]))) Fr))) from by
        obtain ⟨B2, m2, c2, h1, h2⟩ := hh
        have h3 := RR_imp (Q' := fun W => RdAcc W (hds ++ [.slice B2 m2 c2]) (acc ++ [r])) h2 (fun w q => q.1.snoc q.2)
        exact ⟨B2, m2, c2, h1, (h3.imp fun S h => star_mono h (fun _ => id) (fun _ h => star_swap h)).swap⟩)
      have HE := Lib.hid (fun (W : World) (B2 : Option Addr) (m2 c2 : Nat) (v1 : Value) (V : In w0 W (star (rowR 25 1 v1 (k + 1) (hds ++ [.slice B2 m2 c2])) (star (PL bd bl R F G (y.next F d').d (h + 1)) (star (RR br bd bl (y.next F d').x (fun W => RdAcc W (hds ++ [.slice B2 m2 c2]) (acc ++ [r]))) Fr)))) =>
        show ASt w0 W bd bl br R F G z h Fr M (k + 1) v1 (hds ++ [.slice B2 m2 c2]) (acc ++ [r]) (y.next F d').d (y.next F d').x N from
        ⟨V.swap.imp fun S h => star_mono h (fun _ => id) (fun _ h => star_swap h), by rw [HS.out.eqn, readS_some hr]; simp, by have h1 := HS.out.left; have h2 := next_left hr; omega, by simp [HS.out.len], (le_next hle).mono (by omega), by rw [next_closed]; exact HS.out.opn⟩)
      have gX : Good (star (PL bd bl R F G (y.next F d').d (h + 1)) (star (RR br bd bl (y.next F d').x (fun W => True)) Fr)) := star_good (PL_good _ _ _ _ _ _ _) (star_good (RR_good _ _ _ _ _) g)
      have GX := Lib.hid (fun (B2 : Option Addr) (m2 c2 : Nat) => (star_good (PL_good _ _ _ _ _ _ _) (star_good (RR_good _ _ _ _ _) g) : Good (star (PL bd bl R F G (y.next F d').d (h + 1)) (star (RR br bd bl (y.next F d').x (fun W => RdAcc W (hds ++ [.slice B2 m2 c2]) (acc ++ [r]))) Fr))))
      clear hr gR gX hle hd1 HS
      go_wp2_with (first
        | (go_at_call 42; (with_reducible refine CN.out.mono ?_); rintro e w2 ⟨B2, m2, c2, rfl, V⟩; have HO := Lib.hid (V.left.get fun S h => h.1); have V2 := Lib.hid V; clear V CN)
        | (at_builtin; refine wp_append1 (W := w2) 0 rfl (.tmp 34) (.tmp 36) 23 25 (.slice none 0 0) 1 24 rfl Tryz.underlying23 info_L rfl (by omega) (by omega) (.slice B k c) k _ [.slice B2 m2 c2] rfl rfl (by simp) rfl (by simp [Value.oneCell']) HO.out (by omega) (by omega) ?_; intro v1 w3 h3 t3 hor; obtain ⟨B3, c3, rfl⟩ := own_slice h3; have V3 := Lib.hid (HE.out _ _ _ _ _ (V2.out.grow (GX.out _ _ _) h3 t3 hor)); clear V2 HO h3 t3 hor HE GX))
      go_roundw
      case measure => simp [lenOf]; omega
      case rel => exact ⟨k + 1, _, _, _, _, _, _, by omega, by rfl, V3⟩
    | none =>
      have ez : z = ⟨(y.next F d').e, (y.next F d').d, (y.next F d').x, acc⟩ := by
        rw [HS.out.eqn, readS_none _ hr]
        simp
      have hl := HS.out.len
      have hop : (y.next F d').x.closed = false := by rw [next_closed]; exact HS.out.opn
      have gR : Good (star (rowR 25 1 (.slice B k c) k hds) Fr) := star_good (rowR_good _ _ _ _ _) g
      have CN := Lib.hid ((r_next_none gR HS.out.inn hd1 hr).mono fun (e : Ending) (w' : World) hh => show e = .returned (.tuple #[.slice none 0 0, .bool false, .int .i64 (y.next F d').e]) ∧ In w0 w' (star (PL bd bl R F G (y.next F d').d (h + 1)) (star (RR br bd bl (y.next F d').x (fun W => RdAcc W hds acc)) (star (rowR 25 1 (.slice B k c) k hds) Fr))) from hh)
      have CC := Lib.hid (fun W (V : In w0 W (star (PL bd bl R F G (y.next F d').d (h + 1)) (star (RR br bd bl (y.next F d').x (fun W => RdAcc W hds acc)) (star (rowR 25 1 (.slice B k c) k hds) Fr)))) => (r_close_d .returning gR V).mono fun (e : Ending) u' (w' : World) hh => show u' = FrameMode.returning ∧ e = .returned (.tuple #[]) ∧ In w0 w' (star (PL bd bl R F G (y.next F d').d h) (star (RR br bd bl (y.next F d').x.closeX (fun W => RdAcc W hds acc)) (star (rowR 25 1 (.slice B k c) k hds) Fr))) from by
        obtain ⟨h1, h2, h3⟩ := hh
        have eh : (y.next F d').x.closeH (h + 1) = h := by unfold Rs.closeH; rw [if_neg (by rw [hop]; decide), giveH_up h0.out]
        rw [eh] at h3
        exact ⟨h1, h2, h3⟩)
      by_cases he : (y.next F d').e = 0
      · have EF := Lib.hid (fun (w' : World) (V : In w0 w' (star (PL bd bl R F G (y.next F d').d h) (star (RR br bd bl (y.next F d').x.closeX (fun W => RdAcc W hds acc)) (star (rowR 25 1 (.slice B k c) k hds) Fr)))) => show AllC bd bl R F G z h w0 Fr (.returned (.tuple #[.slice B k c, .int .i64 0])) w' from by
          unfold AllC
          rw [ez]
          rw [if_neg (show ¬ (y.next F d').e ≠ 0 by simpa using he)]
          have hcap : k ≤ c := by
            obtain ⟨A9, c9, e9, h9⟩ := own_slice_cap (V.right.right.left.get fun S h => h.1)
            injection e9 with _ _ e9
            rw [e9]
            exact h9
          refine ⟨B, c, hds, by rw [hl], by dsimp only; rw [hl]; exact hcap, ?_⟩
          have h4 := acc_rd V
          dsimp only
          rw [hl]
          exact h4)
        rw [he] at CN
        clear hr ez he hl hop gR hle hd1 HS
        go_wp2_with (go_at_call 42; (with_reducible refine CN.out.mono ?_); rintro e w2 ⟨rfl, V⟩; have V2 := Lib.hid V; clear V CN)
        refine leaves_cons (f := 43) (args := #[rp_ br]) (by simp) (by simp [go_sem]) ?_
        refine (CC.out _ V2.out).mono ?_
        rintro e u' w3 ⟨rfl, rfl, P⟩
        refine ⟨_, results_tmp2 rfl _ _ _, ?_⟩
        exact EF.out _ P
      · have EF := Lib.hid (fun (w' : World) (V : In w0 w' (star (PL bd bl R F G (y.next F d').d h) (star (RR br bd bl (y.next F d').x.closeX (fun W => RdAcc W hds acc)) (star (rowR 25 1 (.slice B k c) k hds) Fr)))) => show AllC bd bl R F G z h w0 Fr (.returned (.tuple #[.slice none 0 0, .int .i64 (y.next F d').e])) w' from by
          unfold AllC
          rw [ez]
          rw [if_pos (show (y.next F d').e ≠ 0 from he)]
          exact ⟨rfl, V.drop.drop⟩)
        have he1 : ((y.next F d').e != 0) = true := by simpa using he
        obtain ⟨E, hEE⟩ : ∃ E, E = (y.next F d').e := ⟨_, rfl⟩
        rw [← hEE] at CN he1 EF
        clear hr ez he hl hop gR hEE hle hd1 HS
        go_wp2_with (go_at_call 42; (with_reducible refine CN.out.mono ?_); rintro e w2 ⟨rfl, V⟩; have V2 := Lib.hid V; clear V CN)
        refine leaves_cons (f := 43) (args := #[rp_ br]) (by simp) (by simp [go_sem]) ?_
        refine (CC.out _ V2.out).mono ?_
        rintro e u' w3 ⟨rfl, rfl, P⟩
        refine ⟨_, results_tmp2 rfl _ _ _, ?_⟩
        exact EF.out _ P
end
end Go.Proofs.YtkbapoeilcapfaaGreat

/- fanout: what comes of Write, All and Concat, told whole. -/
namespace Go.Proofs.YtkbapoeilcapfaaGreat
set_option linter.unusedVariables false
set_option linter.unusedSimpArgs false

section
variable {R G : Int} {F : List Int} {d : Ds} {h n N : Int} {x : Ws} {y : Rs} {rows L M : List (List V)} {xs : List Int}
theorem putAll_keys : ∀ (rows : List (List V)) {d : Ds} {x : Ws}, (putAll R F d x rows).d.fs.map (·.1) = d.fs.map (·.1) ∧ (putAll R F d x rows).x.file = x.file ∧ (putAll R F d x rows).x.ended = x.ended ∧ (putAll R F d x rows).d.used ≤ d.used + rows.length ∧ ∀ q, q ≠ x.file → (putAll R F d x rows).d.find q = d.find q
  | [], d, x => ⟨rfl, rfl, rfl, by simp [putAll], fun _ _ => rfl⟩
  | r :: t, d, x => by
    have hp := put_n (R := R) (F := F) (d := d) (x := x) (r := r)
    have hu := put_used (R := R) (F := F) (d := d) (x := x) (r := r)
    unfold putAll
    split
    · obtain ⟨h1, h2, h3, h4, h5⟩ := putAll_keys t (d := x.putD R F d r) (x := x.putX R F d r)
      exact ⟨h1.trans put_keys, h2.trans hp.2.1, h3.trans hp.2.2, by simp; omega, fun q hq => (h5 q (by rw [hp.2.1]; exact hq)).trans (put_find hq)⟩
    · exact ⟨put_keys, hp.2.1, hp.2.2, by dsimp only; simp; omega, fun q hq => put_find hq⟩
theorem putAll_zero : ∀ (rows : List (List V)) {d : Ds} {x : Ws} {L : List (List V)}, Wrote d x L → (∀ r ∈ rows, mayE r = 0) → d.used + rows.length ≤ R → x.n + rows.length ≤ 1000000 → (putAll R [] d x rows).e = 0
  | [], d, x, L, W, hm, hu, hn => rfl
  | r :: t, d, x, L, W, hm, hu, hn => by
    rw [List.length_cons] at hu hn
    push_cast at hu hn
    have h0 := put_zero (R := R) W (hm r (by simp)) (by omega)
    have hp := put_n (R := R) (F := []) (d := d) (x := x) (r := r)
    have hu2 := put_used (R := R) (F := []) (d := d) (x := x) (r := r)
    unfold putAll
    rw [if_pos h0]
    exact putAll_zero t (put_wrote W h0 (by omega)) (fun r' hr' => hm r' (by simp [hr'])) (by omega) (by have := hp.1; omega)
/-- A file written. -/
structure WrG (R G : Int) (d : Ds) (h : Int) (z : Wt) (rows : List (List V)) : Prop where
  num : z.n = d.made + 1
  made : z.d.made = d.made + 1
  sok : SOk R z.d
  hasp : HasP z.d (d.made + 1) rows
  keys : z.d.fs.map (·.1) = d.fs.map (·.1) ++ [d.made + 1]
  find : ∀ q, q ≠ d.made + 1 → z.d.find q = d.find q
  may : ∀ r ∈ rows, mayE r = 0
  used : z.d.used ≤ d.used + rows.length + 1
  room : ¬ G ≤ h
theorem flush_made : (x.flushD R F d).made = d.made := by
  unfold Ws.flushD Ds.app
  split
  · split
    · rfl
    · split <;> rfl
  · rfl
theorem put_made {r : List V} : (x.putD R F d r).made = d.made := by
  unfold Ws.putD
  split
  · rfl
  · split
    · exact flush_made
    · rfl
theorem putAll_made : ∀ (rows : List (List V)) {d : Ds} {x : Ws}, (putAll R F d x rows).d.made = d.made
  | [], d, x => rfl
  | r :: t, d, x => by
    unfold putAll
    split
    · exact (putAll_made t).trans put_made
    · exact put_made
theorem done_made (hE : x.doneE R F d = 0) (ho : x.ended = false) : (x.doneD R F d).made = d.made := by
  unfold Ws.doneE at hE
  rw [ho, if_neg (by decide)] at hE
  unfold Ws.doneD
  rw [ho, if_neg (by decide), if_pos hE]
  exact flush_made
theorem new_key (K : SOk R d) : d.made + 1 ∉ d.fs.map (·.1) := by
  intro hq
  obtain ⟨z, hz, e⟩ := List.mem_map.1 hq
  have := K.dok.num z hz
  omega
theorem drop_new {base : List Int} {f : Int} (hk : d.fs.map (·.1) = base ++ [f]) (hn : f ∉ base) : (d.del f).fs.map (·.1) = base := by
  rw [del_keys, hk]
  exact filter_base (fun a ha => by simpa using fun e => hn (by rw [← e]; exact ha)) (fun a ha => by simpa using ha)
theorem write_law2 (K : SOk R d) (hl : rows.length ≤ 1000) (hfs : d.fs.length ≤ 32000) (hm : d.made ≤ 1000000) :
    ((writeS R F G d h rows).e ≠ 0 ∧ (writeS R F G d h rows).d.fs.map (·.1) = d.fs.map (·.1)) ∨ ((writeS R F G d h rows).e = 0 ∧ WrG R G d h (writeS R F G d h rows) rows) := by
  unfold writeS
  by_cases hE : wrE G d h ≠ 0
  · rw [if_pos hE]
    exact .inl ⟨hE, rfl⟩
  · rw [if_neg hE]
    have hG : ¬ G ≤ h := by
      intro hg
      unfold wrE at hE
      rw [if_pos hg] at hE
      exact hE (by decide)
    have hC : d.createE = 0 := by unfold wrE at hE; rw [if_neg hG] at hE; simpa using hE
    have ec : d.create.fs.map (·.1) = d.fs.map (·.1) ++ [d.made + 1] := by unfold Ds.create; rw [if_pos hC]; simp
    have em : d.create.made = d.made + 1 := by unfold Ds.create; rw [if_pos hC]
    obtain ⟨a1, a2, a3, a4, a5⟩ := putAll_keys (R := R) (F := F) rows (d := d.create) (x := wrX d)
    have a6 := putAll_made (R := R) (F := F) rows (d := d.create) (x := wrX d)
    have hx : (wrX d).file = d.made + 1 := rfl
    have hopn : (putAll R F d.create (wrX d) rows).x.ended = false := a3
    rw [hx] at a2 a5
    rw [ec] at a1
    rw [em] at a6
    rw [create_used] at a4
    by_cases hP : (putAll R F d.create (wrX d) rows).e ≠ 0
    · rw [if_pos hP]
      refine .inl ⟨hP, ?_⟩
      show (Ds.fs (Ws.dropD _ _)).map (·.1) = _
      unfold Ws.dropD
      rw [hopn, if_neg (by decide), a2]
      exact drop_new a1 (new_key K)
    · rw [if_neg hP]
      have hP : (putAll R F d.create (wrX d) rows).e = 0 := by simpa using hP
      have W0 : Wrote d.create (wrX d) [] := wr_wrote K hC (by omega)
      have c0 : Cnt d.create (wrX d) [] := ⟨⟨[], by rw [create_find K.dok hC]; exact if_pos rfl, rfl⟩, rfl⟩
      obtain ⟨W, c, hmm⟩ := putAll_wrote rows W0 c0 (by show (0 : Int) + _ ≤ _; omega) hP
      have sk := (putAll_sok (R := R) (F := F) (rows := rows) K.create (WOk.new K (by omega)) (by show (0 : Int) + _ ≤ _; omega)).1
      rw [List.nil_append] at W c
      generalize (putAll R F d.create (wrX d) rows) = P at *
      dsimp only
      by_cases hD : P.x.doneE R F P.d = 0
      · obtain ⟨d1, d2, d3⟩ := done_pages W c hD
        refine .inr ⟨hD, ?_⟩
        rw [a2] at d1 d3
        refine ⟨d1, by dsimp only; rw [done_made hD hopn]; exact a6, sk.done W.ok, d3, d2.trans a1, fun q hq => ?_, hmm, ?_, hG⟩
        · dsimp only
          rw [done_find (by rw [a2]; exact hq), a5 q hq, create_find K.dok hC, if_neg hq]
        · have := done_used hD
          dsimp only
          omega
      · refine .inl ⟨hD, ?_⟩
        show (P.x.doneD R F P.d).fs.map (·.1) = _
        unfold Ws.doneE at hD
        unfold Ws.doneD
        rw [hopn] at hD ⊢
        rw [if_neg (by decide)] at hD ⊢
        rw [if_neg hD, a2]
        exact drop_new (by rw [flush_keys]; exact a1) (new_key K)
theorem write_zero (K : SOk R d) (hl : rows.length ≤ 1000) (hfs : d.fs.length ≤ 32000) (hm : d.made ≤ 1000000) (hG : ¬ G ≤ h) (hr : ∀ r ∈ rows, mayE r = 0) (hu : d.used + rows.length < R) : (writeS R [] G d h rows).e = 0 := by
  have hC : d.createE = 0 := by unfold Ds.createE; rw [if_neg (by omega)]
  have hE : wrE G d h = 0 := by unfold wrE; rw [if_neg hG]; exact hC
  have W0 : Wrote d.create (wrX d) [] := wr_wrote K hC (by omega)
  have c0 : Cnt d.create (wrX d) [] := ⟨⟨[], by rw [create_find K.dok hC]; exact if_pos rfl, rfl⟩, rfl⟩
  have h0 := putAll_zero (R := R) rows W0 hr (by rw [create_used]; omega) (by show (0 : Int) + _ ≤ _; omega)
  obtain ⟨W, c, hmm⟩ := putAll_wrote rows W0 c0 (by show (0 : Int) + _ ≤ _; omega) h0
  have hk := (putAll_keys (R := R) (F := []) rows (d := d.create) (x := wrX d)).2.2.2.1
  rw [create_used] at hk
  unfold writeS
  rw [if_neg (by rw [hE]; decide), if_neg (by rw [h0]; decide)]
  exact done_zero W (by omega)
theorem writeS_le (hN : d.le N) (h0 : 0 ≤ N) : (writeS R F G d h rows).d.le (N + rows.length + 2) := by
  unfold writeS
  split
  · exact hN.mono (by omega)
  · have l1 := putAll_le (R := R) (F := F) (rows := rows) (x := wrX d) (le_create hN)
    split
    · exact (le_drop l1).mono (by omega)
    · exact (le_done l1).mono (by omega)
theorem readS_zero : ∀ (L : List (List V)) (f : Nat) {d : Ds} {y : Rs}, SOk R d → Left d y L → L.length < f → (readS [] f d y).e = 0
  | _, 0, d, y, K, h, hf => by omega
  | [], f + 1, d, y, K, h, hf => by
    unfold readS
    rw [left_none K h]
  | r :: L, f + 1, d, y, K, h, hf => by
    obtain ⟨h1, h2⟩ := left_some K h
    unfold readS
    rw [h1]
    dsimp only
    exact readS_zero L f K.next h2 (by simp at hf; omega)
theorem all_zero (K : SOk R d) (hh : Has d n L) : (allS [] d n).e = 0 ∧ (allS [] d n).l = L ∧ (allS [] d n).d.fs = d.fs := by
  have h0 : (allS [] d n).e = 0 := readS_zero L _ K (Left.new hh) (by rw [has_left hh]; omega)
  exact ⟨h0, (all_law K hh).1 h0, (all_law K hh).2⟩
theorem readS_used : ∀ (f : Nat) {d : Ds} {y : Rs}, (readS F f d y).d.used = d.used ∧ (readS F f d y).d.made = d.made
  | 0, d, y => ⟨rfl, rfl⟩
  | f + 1, d, y => by
    have hmd : (y.next F d).d.made = d.made := by
      have hl : (y.loadD F d).made = d.made := by
        unfold Rs.loadD
        split
        · rfl
        · split
          · rfl
          · unfold Ds.read
            split
            · rfl
            · split <;> rfl
      unfold Rs.next
      split
      · rfl
      · split
        · rfl
        · split
          · exact hl
          · exact hl
    unfold readS
    split
    · have := readS_used f (d := (y.next F d).d) (y := (y.next F d).x)
      exact ⟨this.1.trans (next_used F d y), this.2.trans hmd⟩
    · exact ⟨next_used F d y, hmd⟩
theorem eachS_keys : ∀ (f : Nat) {d : Ds} {y : Rs} {x : Ws} {n : Int}, (eachS R F f d y x n).d.fs.map (·.1) = d.fs.map (·.1) ∧ (eachS R F f d y x n).d.used ≤ d.used + f
  | 0, d, y, x, n => ⟨rfl, by simp [eachS]⟩
  | f + 1, d, y, x, n => by
    have h1 : (y.next F d).d.fs.map (·.1) = d.fs.map (·.1) := by rw [next_fs]
    have h2 := next_used F d y
    cases hr : (y.next F d).row with
    | none => rw [eachS_none f hr]; exact ⟨h1, by dsimp only; push_cast; omega⟩
    | some r =>
      have hu := put_used (R := R) (F := F) (d := (y.next F d).d) (x := x) (r := r)
      rw [eachS_some f hr]
      split
      · have ih := eachS_keys f (d := x.putD R F (y.next F d).d r) (y := (y.next F d).x) (x := x.putX R F (y.next F d).d r) (n := n + 1)
        exact ⟨ih.1.trans (put_keys.trans h1), by have := ih.2; push_cast; omega⟩
      · exact ⟨put_keys.trans h1, by dsimp only; push_cast; omega⟩
theorem copyS_keys : (copyS R F G d h x n).d.fs.map (·.1) = d.fs.map (·.1) ∧ (copyS R F G d h x n).d.used ≤ d.used + (rowsD d n).length + 1 := by
  unfold copyS
  split
  · exact ⟨rfl, by dsimp only; omega⟩
  · have := eachS_keys (R := R) (F := F) (leftN d (rs0 n) + 1) (d := d) (y := rs0 n) (x := x) (n := 0)
    rw [left_rowsD] at this
    rw [left_rowsD]
    exact ⟨this.1, by have := this.2; push_cast at this; omega⟩
theorem catAll_keys : ∀ (xs : List Int) {d : Ds} {x : Ws}, (∀ n ∈ xs, n ≠ x.file) → (catAll R F G h d x xs).d.fs.map (·.1) = d.fs.map (·.1) ∧ (catAll R F G h d x xs).d.used ≤ d.used + (xs.flatMap (rowsD d)).length + xs.length
  | [], d, x, hx => ⟨rfl, by simp [catAll]⟩
  | n :: t, d, x, hx => by
    have hk := copyS_keys (R := R) (F := F) (G := G) (d := d) (h := h) (x := x) (n := n)
    have hcx := copyS_x (R := R) (F := F) (G := G) (d := d) (h := h) (x := x) (n := n)
    have hr : ∀ m ∈ t, rowsD (copyS R F G d h x n).d m = rowsD d m := fun m hm => rowsD_copy (hx m (by simp [hm]))
    have hfm : t.flatMap (rowsD (copyS R F G d h x n).d) = t.flatMap (rowsD d) := by rw [List.flatMap_def, List.flatMap_def, List.map_congr_left hr]
    rw [List.flatMap_cons, List.length_append, List.length_cons]
    unfold catAll
    split
    · have ih := catAll_keys t (d := (copyS R F G d h x n).d) (x := (copyS R F G d h x n).x) (fun m hm => by rw [hcx.1]; exact hx m (by simp [hm]))
      rw [hfm] at ih
      exact ⟨ih.1.trans hk.1, by have := ih.2; have := hk.2; push_cast; omega⟩
    · exact ⟨hk.1, by have := hk.2; dsimp only; push_cast; omega⟩
/-- Files one behind the other. -/
structure CatOk (R : Int) (d : Ds) (z : Wt) (rows : List (List V)) : Prop where
  e : z.e = 0
  num : z.n = d.made + 1
  sok : SOk R z.d
  has : Has z.d (d.made + 1) rows
  keys : z.d.fs.map (·.1) = d.fs.map (·.1) ++ [d.made + 1]
  find : ∀ q, q ≠ d.made + 1 → z.d.find q = d.find q
  used : z.d.used ≤ d.used + rows.length + xs.length + 1
theorem rowsD_create (K : SOk R d) (hC : d.createE = 0) {q : Int} (hq : q ≠ d.made + 1) : rowsD d.create q = rowsD d q := by
  unfold rowsD
  rw [create_find K.dok hC, if_neg hq]
theorem concat_law (K : SOk R d) (hfs : d.fs.length ≤ 32000) (hm : d.made ≤ 1000000) (hG : ¬ G ≤ h + 1) (hx : ∀ n ∈ xs, n ∈ d.fs.map (·.1) ∧ ∀ r ∈ rowsD d n, mayE r = 0) (hu : d.used + (xs.flatMap (rowsD d)).length + xs.length < R) (hn : (xs.flatMap (rowsD d)).length + xs.length ≤ 900000) :
    CatOk (xs := xs) R d (concatS R [] G d h xs) (xs.flatMap (rowsD d)) := by
  have hC : d.createE = 0 := by unfold Ds.createE; rw [if_neg (by omega)]
  have hE : wrE G d h = 0 := by unfold wrE; rw [if_neg (by omega)]; exact hC
  have ec : d.create.fs.map (·.1) = d.fs.map (·.1) ++ [d.made + 1] := by unfold Ds.create; rw [if_pos hC]; simp
  have hnew := new_key K
  have hne : ∀ n ∈ xs, n ≠ d.made + 1 := fun n hn e => hnew (by rw [← e]; exact (hx n hn).1)
  have hrd : ∀ n ∈ xs, rowsD d.create n = rowsD d n := fun n hn => rowsD_create K hC (hne n hn)
  have hfm : xs.flatMap (rowsD d.create) = xs.flatMap (rowsD d) := by rw [List.flatMap_def, List.flatMap_def, List.map_congr_left hrd]
  have W0 : Wrote d.create (wrX d) [] := wr_wrote K hC (by omega)
  have hx0 : (wrX d).n = 0 := rfl
  obtain ⟨c1, c2, c3⟩ := catAll_ok (G := G) (h := h + 1) xs K.create W0 hG (fun n hn => ⟨hne n hn, by
      obtain ⟨⟨q, ps⟩, hz, e⟩ := List.mem_map.1 (hx n hn).1
      dsimp only at e
      subst e
      rw [create_find K.dok hC, if_neg (hne _ hn), Ds.find_of_mem K.dok.ord hz]
      rfl, by rw [hrd n hn]; exact (hx n hn).2⟩) (by rw [hfm, create_used]; omega) (by rw [hfm, hx0]; omega)
  obtain ⟨k1, k2⟩ := catAll_keys (R := R) (F := []) (G := G) (h := h + 1) xs (d := d.create) (x := wrX d) hne
  obtain ⟨x1, x2, _, x3⟩ := catAll_x (R := R) (F := []) (G := G) (h := h + 1) xs (d := d.create) (x := wrX d)
  rw [List.nil_append, hfm] at c2
  rw [hfm, create_used] at k2
  rw [ec] at k1
  have hx1 : (wrX d).file = d.made + 1 := rfl
  rw [hx1] at x1 x3
  have es : concatS R [] G d h xs = ⟨(catAll R [] G (h + 1) d.create (wrX d) xs).x.doneN R [] (catAll R [] G (h + 1) d.create (wrX d) xs).d, (catAll R [] G (h + 1) d.create (wrX d) xs).x.doneE R [] (catAll R [] G (h + 1) d.create (wrX d) xs).d, (catAll R [] G (h + 1) d.create (wrX d) xs).x.doneD R [] (catAll R [] G (h + 1) d.create (wrX d) xs).d⟩ := by
    unfold concatS
    rw [if_neg (by rw [hE]; decide), if_neg (by rw [c1]; decide)]
  rw [es]
  generalize (catAll R [] G (h + 1) d.create (wrX d) xs) = P at *
  have hD := done_zero (R := R) c2 (by omega)
  obtain ⟨d1, d2⟩ := done_has c2 hD
  have hdk : (P.x.doneD R [] P.d).fs.map (·.1) = P.d.fs.map (·.1) := by
    have hE := hD
    unfold Ws.doneE at hE
    rw [c2.opn, if_neg (by decide)] at hE
    unfold Ws.doneD
    rw [c2.opn, if_neg (by decide), if_pos hE]
    exact flush_keys
  rw [x1] at d1 d2
  refine ⟨hD, d1, c3.done c2.ok, d2, hdk.trans k1, fun q hq => ?_, ?_⟩
  · dsimp only
    rw [done_find (by rw [x1]; exact hq), x3 q hq, create_find K.dok hC, if_neg hq]
  · have := done_used hD
    dsimp only
    omega
/-- A file is gone. -/
theorem concat_gone (K : SOk R d) (hfs : d.fs.length ≤ 32000) (hm : d.made ≤ 1000000) (hG : ¬ G ≤ h + 1) (hx : ∀ n ∈ xs, n ≠ d.made + 1 ∧ ∀ r ∈ rowsD d n, mayE r = 0) (hg : ∃ n ∈ xs, d.find n = none) (hu : d.used + (xs.flatMap (rowsD d)).length + xs.length < R) (hn : (xs.flatMap (rowsD d)).length + xs.length ≤ 900000) :
    (concatS R [] G d h xs).e = 4 ∧ (concatS R [] G d h xs).n = 0 ∧ (concatS R [] G d h xs).d.fs.map (·.1) = d.fs.map (·.1) := by
  have hC : d.createE = 0 := by unfold Ds.createE; rw [if_neg (by omega)]
  have hE : wrE G d h = 0 := by unfold wrE; rw [if_neg (by omega)]; exact hC
  have ec : d.create.fs.map (·.1) = d.fs.map (·.1) ++ [d.made + 1] := by unfold Ds.create; rw [if_pos hC]; simp
  have hne : ∀ n ∈ xs, n ≠ d.made + 1 := fun n hn => (hx n hn).1
  have hrd : ∀ n ∈ xs, rowsD d.create n = rowsD d n := fun n hn => rowsD_create K hC (hne n hn)
  have hfm : xs.flatMap (rowsD d.create) = xs.flatMap (rowsD d) := by rw [List.flatMap_def, List.flatMap_def, List.map_congr_left hrd]
  have W0 : Wrote d.create (wrX d) [] := wr_wrote K hC (by omega)
  have hx0 : (wrX d).n = 0 := rfl
  have c1 := catAll_gone (G := G) (h := h + 1) xs K.create W0 hG (fun n hn => ⟨hne n hn, by rw [hrd n hn]; exact (hx n hn).2⟩) (by
      obtain ⟨n, hn, e⟩ := hg
      exact ⟨n, hn, by rw [create_find K.dok hC, if_neg (hne n hn)]; exact e⟩) (by rw [hfm, create_used]; omega) (by rw [hfm, hx0]; omega)
  obtain ⟨k1, k2⟩ := catAll_keys (R := R) (F := []) (G := G) (h := h + 1) xs (d := d.create) (x := wrX d) hne
  obtain ⟨x1, x2, _, x3⟩ := catAll_x (R := R) (F := []) (G := G) (h := h + 1) xs (d := d.create) (x := wrX d)
  rw [ec] at k1
  have es : concatS R [] G d h xs = ⟨0, (catAll R [] G (h + 1) d.create (wrX d) xs).e, (catAll R [] G (h + 1) d.create (wrX d) xs).x.dropD (catAll R [] G (h + 1) d.create (wrX d) xs).d⟩ := by
    unfold concatS
    rw [if_neg (by rw [hE]; decide), if_pos (by rw [c1]; decide)]
  rw [es]
  refine ⟨c1, rfl, ?_⟩
  dsimp only
  unfold Ws.dropD
  rw [x2, if_neg (by rw [show (wrX d).ended = false from rfl]; decide), x1]
  exact drop_new k1 (new_key K)
end
end Go.Proofs.YtkbapoeilcapfaaGreat

/- fanout: what must come of every program, as plain data. -/
namespace Go.Proofs.YtkbapoeilcapfaaGreat
set_option linter.unusedVariables false
set_option linter.unusedSimpArgs false

section
variable {p : FP} {R G : Int} {F : List Int} {d : Ds} {h n N file : Int} {x : Ws} {y : Rs} {xs : List Int} {ws : List Ws} {r : List V}
theorem del_made : (d.del n).made = d.made := by
  unfold Ds.del
  split <;> rfl
theorem next_made : (y.next F d).d.made = d.made := by
  have hl : (y.loadD F d).made = d.made := by
    unfold Rs.loadD
    split
    · rfl
    · split
      · rfl
      · unfold Ds.read
        split
        · rfl
        · split <;> rfl
  unfold Rs.next
  split
  · rfl
  · split
    · rfl
    · split
      · exact hl
      · exact hl
theorem done_made2 : (x.doneD R F d).made = d.made := by
  unfold Ws.doneD
  split
  · rfl
  · split
    · exact flush_made
    · exact del_made.trans flush_made
theorem drop_made : (x.dropD d).made = d.made := by
  unfold Ws.dropD
  split
  · rfl
  · exact del_made
theorem fput_made : (fput p d ws r).d.made = d.made := by
  unfold fput
  split
  · rfl
  · split
    · rfl
    · exact put_made
theorem eachF_made : ∀ (f : Nat) {d : Ds} {y : Rs} {ws : List Ws} {n : Int}, (eachF p f d y ws n).d.made = d.made
  | 0, d, y, ws, n => rfl
  | f + 1, d, y, ws, n => by
    cases hr : (y.next p.F d).row with
    | none => rw [eachF_none f hr]; exact next_made
    | some r =>
      rw [eachF_some f hr]
      split
      · exact (eachF_made f).trans (fput_made.trans next_made)
      · exact fput_made.trans next_made
theorem eachS_made : ∀ (f : Nat) {d : Ds} {y : Rs} {x : Ws} {n : Int}, (eachS R F f d y x n).d.made = d.made
  | 0, d, y, x, n => rfl
  | f + 1, d, y, x, n => by
    cases hr : (y.next F d).row with
    | none => rw [eachS_none f hr]; exact next_made
    | some r =>
      rw [eachS_some f hr]
      split
      · exact (eachS_made f).trans (put_made.trans next_made)
      · exact put_made.trans next_made
theorem copyS_made : (copyS R F G d h x n).d.made = d.made := by
  unfold copyS
  split
  · rfl
  · exact eachS_made _
theorem catAll_made : ∀ (xs : List Int) {d : Ds} {x : Ws}, (catAll R F G h d x xs).d.made = d.made
  | [], d, x => rfl
  | n :: t, d, x => by
    unfold catAll
    split
    · exact (catAll_made t).trans copyS_made
    · exact copyS_made
theorem drops_made : ∀ (ws : List Ws) {d : Ds}, (dropsDx d ws).made = d.made
  | [], d => rfl
  | x :: t, d => (drops_made t).trans drop_made
theorem delAll_made : ∀ (l : List Int) {d : Ds}, (delAll d l).made = d.made
  | [], d => rfl
  | a :: t, d => (delAll_made t).trans del_made
theorem dnAll_made : ∀ (t : List Ws) {d : Ds} {h : Int} {pre : List Ws} {out : List Int}, (dnAll R F d h pre t out).d.made = d.made
  | [], d, h, pre, out => rfl
  | x :: t, d, h, pre, out => by
    unfold dnAll
    split
    · exact (dnAll_made t).trans done_made2
    · exact done_made2
theorem create_made : d.create.made ≤ d.made + 1 := by
  unfold Ds.create
  split
  · exact Int.le_refl _
  · omega
theorem crD_made : ∀ (k : Nat) {d : Ds}, (crD k d).made ≤ d.made + k
  | 0, d => by simp [crD]
  | k + 1, d => by
    have := crD_made k (d := d.create)
    have := create_made (d := d)
    unfold crD
    push_cast
    omega
theorem splitS_made : (splitS p G d h file n).d.made ≤ d.made + n.toNat := by
  have h1 := crD_made n.toNat (d := d)
  unfold splitS
  split
  · dsimp only; omega
  · split
    · dsimp only; omega
    · split
      · dsimp only; omega
      · split
        · dsimp only; rw [drops_made, eachF_made]; exact h1
        · unfold doneF
          split
          · dsimp only; rw [delAll_made, drops_made, dnAll_made, eachF_made]; exact h1
          · dsimp only; rw [dnAll_made, eachF_made]; exact h1
theorem concatS_made : (concatS R F G d h xs).d.made ≤ d.made + 1 := by
  have h1 := create_made (d := d)
  unfold concatS
  split
  · dsimp only; omega
  · split
    · dsimp only; rw [drop_made, catAll_made]; exact h1
    · dsimp only; rw [done_made2, catAll_made]; exact h1
theorem catAll_le : ∀ (xs : List Int) {d : Ds} {x : Ws} {N : Int}, d.le N → (∀ m ∈ xs, m ≠ x.file ∧ leftN d (rs0 m) ≤ 1000) → (catAll R F G h d x xs).d.le (N + 2002 * xs.length)
  | [], d, x, N, K, hx => K.mono (by simp)
  | n :: t, d, x, N, K, hx => by
    have hl := copyS_le (R := R) (F := F) (G := G) (h := h) (x := x) (n := n) K
    have hcx := copyS_x (R := R) (F := F) (G := G) (d := d) (h := h) (x := x) (n := n)
    have hn := (hx n (by simp)).2
    rw [List.length_cons]
    unfold catAll
    split
    · refine (catAll_le t hl fun m hm => ?_).mono (by push_cast; omega)
      rw [hcx.1, copyS_left (hx m (by simp [hm])).1]
      exact hx m (by simp [hm])
    · exact hl.mono (by push_cast; omega)
theorem concatS_le (K : d.le N) (hx : ∀ m ∈ xs, m ≠ d.made + 1 ∧ leftN d.create (rs0 m) ≤ 1000) : (concatS R F G d h xs).d.le (N + 2 + 2002 * xs.length) := by
  have h1 := catAll_le (R := R) (F := F) (G := G) (h := h + 1) (x := wrX d) xs (le_create K) hx
  unfold concatS
  split
  · exact K.mono (by omega)
  · split
    · exact (le_drop h1).mono (by omega)
    · exact (le_done h1).mono (by omega)
end
def lr2 : List V := [⟨2, 2, ⟨#[]⟩⟩]
def lrs : List (List V) := [lr, lr2, lr]
def lvP : FP := ⟨50, [], 7, 0, [0]⟩
theorem lrs_may : ∀ r ∈ lrs, mayE r = 0 := by
  intro r hr
  unfold lrs at hr
  simp only [List.mem_cons, List.not_mem_nil, or_false] at hr
  rcases hr with rfl | rfl | rfl
  · decide
  · decide
  · decide
theorem lv_first : firstE lvP.cs lrs = 0 := by decide
/-- The two parts, whichever row lies in which. -/
theorem lv_parts : (partF lvP 2 0 lrs ++ partF lvP 2 1 lrs).Perm lrs ∧ max (max 0 ((fillG (partF lvP 2 0 lrs)).length : Int)) ((fillG (partF lvP 2 1 lrs)).length : Int) = 1 := by
  have ha := partI_lt (p := lvP) (r := lr) (m := 2) (by omega) (by omega)
  have hb := partI_lt (p := lvP) (r := lr2) (m := 2) (by omega) (by omega)
  have e0 : (fillG []).length = 0 := rfl
  have e1 : (fillG [lr, lr]).length = 1 := by decide
  have e2 : (fillG [lr2]).length = 1 := by decide
  have e3 : (fillG [lr, lr2, lr]).length = 1 := by decide
  have c1 : partI lvP 2 lr = 0 ∨ partI lvP 2 lr = 1 := by omega
  have c2 : partI lvP 2 lr2 = 0 ∨ partI lvP 2 lr2 = 1 := by omega
  rcases c1 with c1 | c1 <;> rcases c2 with c2 | c2
  · have a : partF lvP 2 0 lrs = [lr, lr2, lr] := by simp [partF, lrs, c1, c2]
    have b : partF lvP 2 1 lrs = [] := by simp [partF, lrs, c1, c2]
    rw [a, b, e3, e0]
    exact ⟨by simp [lrs], by decide⟩
  · have a : partF lvP 2 0 lrs = [lr, lr] := by simp [partF, lrs, c1, c2]
    have b : partF lvP 2 1 lrs = [lr2] := by simp [partF, lrs, c1, c2]
    rw [a, b, e1, e2]
    exact ⟨(List.Perm.swap lr2 lr []).cons lr, by decide⟩
  · have a : partF lvP 2 0 lrs = [lr2] := by simp [partF, lrs, c1, c2]
    have b : partF lvP 2 1 lrs = [lr, lr] := by simp [partF, lrs, c1, c2]
    rw [a, b, e1, e2]
    exact ⟨List.Perm.swap lr lr2 [lr], by decide⟩
  · have a : partF lvP 2 0 lrs = [] := by simp [partF, lrs, c1, c2]
    have b : partF lvP 2 1 lrs = [lr, lr2, lr] := by simp [partF, lrs, c1, c2]
    rw [a, b, e3, e0]
    exact ⟨by simp [lrs], by decide⟩
end Go.Proofs.YtkbapoeilcapfaaGreat

/- fanout: what must come of every program: the chain of plain data. -/
namespace Go.Proofs.YtkbapoeilcapfaaGreat
set_option linter.unusedVariables false
set_option linter.unusedSimpArgs false

section
variable {p : FP} {R G : Int} {F : List Int} {d : Ds} {h n N : Int} {L : List (List V)}
theorem has_rows (hh : Has d n L) : rowsD d n = L := by
  obtain ⟨ps, h1, h2⟩ := hh
  unfold rowsD
  rw [h1]
  exact h2
theorem find_key (hn : n ∉ d.fs.map (·.1)) : d.find n = none := by
  cases hf : d.find n with
  | none => rfl
  | some l => exact absurd (List.mem_map_of_mem (f := (·.1)) (Ds.find_mem hf)) hn
theorem key_le (K : SOk R d) (hn : n ∈ d.fs.map (·.1)) : 1 ≤ n ∧ n ≤ d.made := by
  obtain ⟨z, hz, rfl⟩ := List.mem_map.1 hn
  exact K.dok.num z hz
theorem partF_sub {m i : Nat} {rows : List (List V)} : ∀ r ∈ partF p m i rows, r ∈ rows := fun r hr => (List.mem_filter.1 hr).1
theorem sizeI_pages {ps : List Pg} (h : d.find n = some ps) : sizeI d n = ps.length := by unfold sizeI; rw [h]; rfl
end
structure LvC (z1 : Wt) (z2 : Sp) (z3 : Wt) (z4 : Rt) (d5 : Ds) (x5 : Ws) (z6 : Et) (d7 : Ds) (ps1 ps2 : List Pg) : Prop where
  w : z1 = writeS 50 [] 3 Ds.new 0 lrs
  wn : z1.n = 1
  we : z1.e = 0
  s : z2 = splitS lvP 3 z1.d 0 1 2
  sf : z1.d.find 1 = some ps1
  sl : leftN z1.d (rs0 1) = 3
  sk : z1.d.fs.length = 1
  sle : z1.d.le 5
  se : z2.e = 0
  so : z2.out.length = 2
  swf : ∀ q ∈ z2.out, (Lit.int .i64 q).wf = true
  tf : z2.d.find 1 = some ps2
  tle : z2.d.le 17
  c : z3 = concatS 50 [] 3 z2.d 0 z2.out
  cw : wrE 3 z2.d 0 = 0
  cf : ∀ q ∈ z2.out, q ≠ z2.d.made + 1
  cl : ∀ q ∈ z2.out, leftN z2.d.create (rs0 q) ≤ 1000
  ce : z3.e = 0
  cwf : (Lit.int .i64 z3.n).wf = true
  cle : z3.d.le 5000
  a : z4 = allS [] z3.d z3.n
  ar : rrE 3 z3.d 0 z3.n = 0
  ae : z4.e = 0
  al : z4.l.Perm lrs
  bw : z4.d.createE = 0
  bm : z4.d.made ≤ 1000
  b : d5 = z4.d.create
  bx : x5 = wrX z4.d
  k : z6 = copyS 50 [] 3 d5 1 x5 1
  kf : (1 : Int) ≠ x5.file
  kl : leftN d5 (rs0 1) ≤ 90000
  kle : d5.le 6000
  kn : z6.n = 3
  ke : z6.e = 0
  e : d7 = z6.x.dropD z6.d
  eh : z6.x.endH 1 = 0
  efs : d7.fs.length = 4
  ew : widS d7 (z2.out ++ [99]) = 1
theorem lv_chain : ∃ z1 z2 z3 z4 d5 x5 z6 d7 ps1 ps2, LvC z1 z2 z3 z4 d5 x5 z6 d7 ps1 ps2 := by
  have l0 : Ds.new.le 0 := ⟨by decide, by decide⟩
  have K0 : SOk 50 Ds.new := SOk.new (by decide) (by decide)
  have hlen : lrs.length = 3 := rfl
  -- the file
  have e1 := write_zero (R := 50) (G := 3) (h := 0) (rows := lrs) K0 (by decide) (by decide) (by decide) (by decide) lrs_may (by decide)
  have W1 := ((write_law2 (R := 50) (F := []) (G := 3) (h := 0) (rows := lrs) K0 (by decide) (by decide) (by decide)).resolve_left fun h => h.1 e1).2
  have le1 := writeS_le (R := 50) (F := []) (G := 3) (h := 0) (rows := lrs) l0 (by decide)
  obtain ⟨z1, hz1⟩ : ∃ z, z = writeS 50 [] 3 Ds.new 0 lrs := ⟨_, rfl⟩
  rw [← hz1] at e1 W1 le1
  have hn1 : z1.n = 1 := W1.num
  have hm1 : z1.d.made = 1 := W1.made
  have hk1 : z1.d.fs.map (·.1) = [1] := W1.keys
  have hh1 : Has z1.d 1 lrs := W1.hasp.has
  have hu1 : z1.d.used ≤ 4 := W1.used
  have hf1 : z1.d.fs.length = 1 := by have := congrArg List.length hk1; simpa using this
  have le1 : z1.d.le 5 := le1.mono (by rw [hlen]; omega)
  obtain ⟨ps1, hp1, _⟩ := hh1
  have hh1 : Has z1.d 1 lrs := W1.hasp.has
  -- the parts
  have e2 := split_zero (p := lvP) (G := 3) (h := 0) (file := 1) (n := 2) W1.sok hh1 lrs_may (by omega) (by omega) (by decide) (by decide) (by decide) rfl (by show z1.d.used + 3 + 2 < 50; omega)
  rw [lv_first] at e2
  have S2 := (split_law (p := lvP) (G := 3) (h := 0) (file := 1) (n := 2) W1.sok hh1 lrs_may (by omega) (by omega) (by decide)).resolve_right fun h => h.1 e2
  obtain ⟨m, hm, _, _, S2⟩ := S2
  obtain rfl : m = 2 := by omega
  have le2 := splitS_le (p := lvP) (G := 3) (h := 0) (file := 1) (n := 2) W1.sok (by omega) (by omega) le1 hh1 (by decide)
  have md2 := splitS_made (p := lvP) (G := 3) (h := 0) (d := z1.d) (file := 1) (n := 2)
  obtain ⟨z2, hz2⟩ : ∃ z, z = splitS lvP 3 z1.d 0 1 2 := ⟨_, rfl⟩
  rw [← hz2] at e2 S2 le2 md2
  have le2 : z2.d.le 17 := le2.mono (by rw [hlen]; decide)
  have md2 : z2.d.made ≤ 3 := by rw [hm1] at md2; exact md2
  have hu2 : z2.d.used ≤ 9 := by have := S2.used; rw [hlen] at this; omega
  have hk2 : z2.d.fs.map (·.1) = 1 :: z2.out := by rw [S2.keys, hk1]; rfl
  have hol := S2.len
  have sok2 : SOk 50 z2.d := S2.sok
  have hp2 : z2.d.find 1 = some ps1 := by rw [S2.find 1 (by rw [hk1]; simp)]; exact hp1
  have hmem2 : ∀ q ∈ z2.out, q ∈ z2.d.fs.map (·.1) := fun q hq => by rw [hk2]; exact List.mem_cons_of_mem _ hq
  have hnew2 := new_key sok2
  obtain ⟨q0, q1, ho⟩ : ∃ q0 q1, z2.out = [q0, q1] := by
    match h : z2.out, hol with
    | [a, b], _ => exact ⟨a, b, rfl⟩
  have P0 := S2.outs 0 q0 (by rw [ho]; rfl)
  have P1 := S2.outs 1 q1 (by rw [ho]; rfl)
  obtain ⟨hperm, hmax⟩ := lv_parts
  have hfl : z2.out.flatMap (rowsD z2.d) = partF lvP 2 0 lrs ++ partF lvP 2 1 lrs := by
    rw [ho]
    simp [has_rows P0.has, has_rows P1.has]
  have hfln : (z2.out.flatMap (rowsD z2.d)).length = 3 := by rw [hfl, hperm.length_eq]; rfl
  have hmay2 : ∀ q ∈ z2.out, ∀ r ∈ rowsD z2.d q, mayE r = 0 := by
    intro q hq r hr
    rw [ho] at hq
    simp only [List.mem_cons, List.not_mem_nil, or_false] at hq
    rcases hq with rfl | rfl
    · rw [has_rows P0.has] at hr; exact lrs_may r (partF_sub r hr)
    · rw [has_rows P1.has] at hr; exact lrs_may r (partF_sub r hr)
  have hC2 : z2.d.createE = 0 := by
    have := congrArg List.length hk2
    rw [List.length_map, List.length_cons, hol] at this
    unfold Ds.createE
    rw [if_neg (by omega)]
  have hne2 : ∀ q ∈ z2.out, q ≠ z2.d.made + 1 := fun q hq e => hnew2 (by rw [← e]; exact hmem2 q hq)
  have hl2 : ∀ q ∈ z2.out, leftN z2.d.create (rs0 q) ≤ 1000 := fun q hq => by
    rw [left_rowsD, rowsD_create sok2 hC2 (hne2 q hq)]
    rw [ho] at hq
    simp only [List.mem_cons, List.not_mem_nil, or_false] at hq
    have hp3 := hperm.length_eq
    rw [List.length_append, hlen] at hp3
    rcases hq with rfl | rfl
    · rw [has_rows P0.has]; omega
    · rw [has_rows P1.has]; omega
  -- the files one behind the other
  have C3 := concat_law (R := 50) (G := 3) (h := 0) (xs := z2.out) sok2 (by
      have := congrArg List.length hk2
      rw [List.length_map, List.length_cons, hol] at this
      omega) (by omega) (by decide) (fun q hq => ⟨hmem2 q hq, hmay2 q hq⟩) (by rw [hfln, hol]; omega) (by rw [hfln, hol]; decide)
  have le3 := concatS_le (R := 50) (F := []) (G := 3) (h := 0) (xs := z2.out) le2 fun q hq => ⟨hne2 q hq, hl2 q hq⟩
  have md3 := concatS_made (R := 50) (F := []) (G := 3) (h := 0) (d := z2.d) (xs := z2.out)
  obtain ⟨z3, hz3⟩ : ∃ z, z = concatS 50 [] 3 z2.d 0 z2.out := ⟨_, rfl⟩
  rw [← hz3] at C3 le3 md3
  have le3 : z3.d.le 5000 := le3.mono (by rw [hol]; decide)
  have md3 : z3.d.made ≤ 4 := by omega
  have hu3 : z3.d.used ≤ 15 := by have := C3.used; rw [hfln, hol] at this; omega
  have hn3 := C3.num
  have hk3 : z3.d.fs.map (·.1) = (1 :: z2.out) ++ [z2.d.made + 1] := by rw [C3.keys, hk2]
  have hl3 : z3.d.fs.length = 4 := by
    have := congrArg List.length hk3
    rw [List.length_map, List.length_append, List.length_cons, hol] at this
    exact this
  have hh3 : Has z3.d z3.n (partF lvP 2 0 lrs ++ partF lvP 2 1 lrs) := by rw [hn3, ← hfl]; exact C3.has
  -- its rows
  obtain ⟨e4, l4, f4⟩ := all_zero C3.sok hh3
  obtain ⟨u4, m4⟩ := readS_used (F := []) (leftN z3.d (rs0 z3.n) + 1) (d := z3.d) (y := rs0 z3.n)
  have sok4 := readS_sok (F := []) (f := leftN z3.d (rs0 z3.n) + 1) (y := rs0 z3.n) C3.sok
  have le4 := readS_le (F := []) (f := leftN z3.d (rs0 z3.n) + 1) (y := rs0 z3.n) le3
  rw [has_left hh3, hperm.length_eq] at le4
  have le4 : (allS [] z3.d z3.n).d.le 5004 := by unfold allS; rw [has_left hh3, hperm.length_eq]; exact le4
  have u4 : (allS [] z3.d z3.n).d.used = z3.d.used := u4
  have m4 : (allS [] z3.d z3.n).d.made = z3.d.made := m4
  have sok4 : SOk 50 (allS [] z3.d z3.n).d := sok4
  obtain ⟨z4, hz4⟩ : ∃ z, z = allS [] z3.d z3.n := ⟨_, rfl⟩
  rw [← hz4] at e4 l4 f4 u4 m4 sok4 le4
  have hC4 : z4.d.createE = 0 := by unfold Ds.createE; rw [f4, hl3]; rfl
  have find4 : ∀ q, z4.d.find q = z3.d.find q := fun q => by unfold Ds.find; rw [f4]
  have hk4 : z4.d.fs.map (·.1) = (1 :: z2.out) ++ [z2.d.made + 1] := by rw [f4]; exact hk3
  have hnew4 := new_key sok4
  have h14 : (1 : Int) ≠ z4.d.made + 1 := fun e => hnew4 (by rw [← e, hk4]; simp)
  -- a writer
  have ec : z4.d.create.fs.map (·.1) = z4.d.fs.map (·.1) ++ [z4.d.made + 1] := by unfold Ds.create; rw [if_pos hC4]; simp
  have hp5 : z4.d.create.find 1 = some ps1 := by
    rw [create_find sok4.dok hC4, if_neg h14, find4, C3.find 1 (by
      intro e
      exact hnew2 (by rw [← e, hk2]; simp)), hp2]
  have hr5 : rowsD z4.d.create 1 = lrs := by
    obtain ⟨ps, a1, a2⟩ := hh1
    rw [hp1] at a1
    injection a1 with a1
    unfold rowsD
    rw [hp5, a1]
    exact a2
  have le5 : z4.d.create.le 6000 := (le_create le4).mono (by decide)
  have W5 := wr_wrote sok4 hC4 (by omega)
  obtain ⟨k1, k2, k3, k4, k5⟩ := copyS_ok (R := 50) (G := 3) (h := 1) (n := 1) sok4.create W5 (by decide) (by rw [show (wrX z4.d).file = z4.d.made + 1 from rfl]; exact h14) (by rw [hp5]; rfl) (by rw [hr5]; exact lrs_may) (by rw [hr5, create_used, hlen]; omega) (by rw [hr5, show (wrX z4.d).n = 0 from rfl]; decide)
  have hkx := copyS_x (R := 50) (F := []) (G := 3) (d := z4.d.create) (h := 1) (x := wrX z4.d) (n := 1)
  have hkk := (copyS_keys (R := 50) (F := []) (G := 3) (d := z4.d.create) (h := 1) (x := wrX z4.d) (n := 1)).1
  have hkf : ∀ q, q ≠ z4.d.made + 1 → (copyS 50 [] 3 z4.d.create 1 (wrX z4.d) 1).d.find q = z4.d.create.find q := fun q hq => copyS_find hq
  rw [hr5] at k2
  obtain ⟨z6, hz6⟩ : ∃ z, z = copyS 50 [] 3 z4.d.create 1 (wrX z4.d) 1 := ⟨_, rfl⟩
  rw [← hz6] at k1 k2 k3 k4 k5 hkx hkk hkf
  have hxf : z6.x.file = z4.d.made + 1 := hkx.1
  have hxo : z6.x.ended = false := k3.opn
  have eD : z6.x.dropD z6.d = z6.d.del (z4.d.made + 1) := by unfold Ws.dropD; rw [hxo, if_neg (by decide), hxf]
  have hk7 : (z6.x.dropD z6.d).fs.map (·.1) = z4.d.fs.map (·.1) := by rw [eD]; exact drop_new (by rw [hkk, ec]) hnew4
  have find7 : ∀ q, q ≠ z4.d.made + 1 → q ≠ z2.d.made + 1 → (z6.x.dropD z6.d).find q = z2.d.find q := fun q h4 h2 => by
    rw [eD, del_find, if_neg h4, hkf q h4, create_find sok4.dok hC4, if_neg h4, find4, C3.find q h2]
  have hq4 : ∀ q ∈ z2.out, q ≠ z4.d.made + 1 := fun q hq e => hnew4 (by rw [← e, hk4]; simp [hq])
  refine ⟨z1, z2, z3, z4, z4.d.create, wrX z4.d, z6, z6.x.dropD z6.d, ps1, ps1, hz1, hn1, e1, hz2, hp1, by rw [has_left hh1]; rfl, hf1, le1, e2, hol, fun q hq => ?_, hp2, le2, hz3, ?_, hne2, hl2, C3.e, ?_, le3, hz4, ?_, e4, by rw [l4]; exact hperm, hC4, by omega, rfl, rfl, hz6, h14, by rw [left_rowsD, hr5]; decide, le5, k2, k1, rfl, ?_, ?_, ?_⟩
  · have := key_le sok2 (hmem2 q hq)
    exact wf_i64 (by omega) (by omega)
  · unfold wrE
    rw [if_neg (by decide)]
    exact hC2
  · rw [hn3]
    have := sok2.dok.made
    exact wf_i64 (by omega) (by omega)
  · obtain ⟨ps, a1, _⟩ := hh3
    unfold rrE
    rw [a1]
    rfl
  · unfold Ws.endH
    rw [hxo]
    decide
  · have := congrArg List.length hk7
    rw [List.length_map, List.length_map, f4, hl3] at this
    exact this
  · obtain ⟨p0, a1, _, a2⟩ := P0
    obtain ⟨p1, b1, _, b2⟩ := P1
    have m0 : q0 ∈ z2.out := by rw [ho]; simp
    have m1 : q1 ∈ z2.out := by rw [ho]; simp
    have s0 : sizeI (z6.x.dropD z6.d) q0 = (fillG (partF lvP 2 0 lrs)).length := by
      rw [sizeI_pages (ps := p0) (by rw [find7 q0 (hq4 q0 m0) (hne2 q0 m0)]; exact a1), a2]
    have s1 : sizeI (z6.x.dropD z6.d) q1 = (fillG (partF lvP 2 1 lrs)).length := by
      rw [sizeI_pages (ps := p1) (by rw [find7 q1 (hq4 q1 m1) (hne2 q1 m1)]; exact b1), b2]
    have s9 : sizeI (z6.x.dropD z6.d) 99 = 0 := by
      unfold sizeI
      rw [find_key]
      · rfl
      · rw [hk7]
        intro h
        have := key_le sok4 h
        omega
    rw [ho]
    unfold widS
    show max (max (max 0 (sizeI _ q0)) (sizeI _ q1)) (sizeI _ 99) = 1
    rw [s0, s1, s9, hmax]
    decide
end Go.Proofs.YtkbapoeilcapfaaGreat

/- fanout: what must come of every program, call by call. -/
namespace Go.Proofs.YtkbapoeilcapfaaGreat
open Go.RowKit Go.Maps
set_option linter.unusedVariables false
set_option linter.unusedSimpArgs false
set_option maxRecDepth 6000

abbrev litO (x : Int) : Obj := .cells #[.int .i64 2, .int .i64 x, .string ⟨#[]⟩] 86 (0, 0)
abbrev litR (x : Int) : List V := [⟨2, x, ⟨#[]⟩⟩]
theorem rdV_litx {W : World} {b : Nat} {x : Int} (h : W.heap[b]? = some (litO x)) : RdV W (some ⟨b, 0, none⟩) 1 (litR x) := by
  refine ⟨rfl, by omega, fun _ => ⟨_, rfl, lt_of_heap h, fun i v hv => ?_⟩, fun v hv => ?_⟩
  · rcases i with _ | i
    · obtain rfl : (⟨2, x, ⟨#[]⟩⟩ : V) = v := by simpa using hv
      rw [Nat.zero_mul, add_zero0]
      exact ⟨cell_of_blk h 0, cell_of_blk h 1, cell_of_blk h 2⟩
    · simp at hv
  · obtain rfl : v = ⟨2, x, ⟨#[]⟩⟩ := by simpa using hv
    exact Nat.zero_le _
section
variable {w0 w W : World} {bd bl bw bp bL b1 b2 b3 : Nat} {A B X : Res} {z1 : Wt} {z2 : Sp} {z3 : Wt} {z4 : Rt} {d5 : Ds} {x5 : Ws} {z6 : Et} {d7 : Ds} {ps1 ps2 : List Pg}
abbrev rdx (b : Nat) (x : Int) : Res := rd (fun W => RdV W (some ⟨b, 0, none⟩) 1 (litR x))
theorem push_row (g : Good (star A X)) (V : In w0 w (star A X)) (x : Int) : In w0 (w.alloc (litO x)) (star A (star (rdx w.heap.size x) X)) := by
  have h := heap_alloc_new w (litO x)
  have h1 := V.add g ((Below.refl _ _).alloc (Nat.le_refl _) (litO x)) (N := rdx w.heap.size x) (S' := fun k => k = w.heap.size) ⟨fun k hk => by rw [hk]; exact lt_of_heap h, fun W ht => rdV_litx (ht.heap h (fun hn => hn rfl))⟩ (fun k hk => by rw [hk]; exact Nat.le_refl _)
  exact h1.ac (by ac_rfl)
abbrev hds3 (b1 b2 b3 : Nat) : List Value := [.slice (some ⟨b1, 0, none⟩) 1 1, .slice (some ⟨b2, 0, none⟩) 1 1, .slice (some ⟨b3, 0, none⟩) 1 1]
abbrev lrsR (bL b1 b2 b3 : Nat) : Res := rd (fun W => RdL W (some ⟨bL, 0, none⟩) 3 (hds3 b1 b2 b3) lrs)
theorem push_list (g : Good (star A (star (rdx b3 1) (star (rdx b2 2) (star (rdx b1 1) X))))) (V : In w0 w (star A (star (rdx b3 1) (star (rdx b2 2) (star (rdx b1 1) X))))) :
    In w0 (w.alloc (.cells #[.slice (some ⟨b1, 0, none⟩) 1 1, .slice (some ⟨b2, 0, none⟩) 1 1, .slice (some ⟨b3, 0, none⟩) 1 1] 25)) (star A (star (lrsR w.heap.size b1 b2 b3) X)) := by
  have h := heap_alloc_new w (.cells #[.slice (some ⟨b1, 0, none⟩) 1 1, .slice (some ⟨b2, 0, none⟩) 1 1, .slice (some ⟨b3, 0, none⟩) 1 1] 25 (0, 0))
  have h1 := V.add g ((Below.refl _ _).alloc (Nat.le_refl _) _) (N := rd (fun W => W.heap[w.heap.size]? = some (.cells #[.slice (some ⟨b1, 0, none⟩) 1 1, .slice (some ⟨b2, 0, none⟩) 1 1, .slice (some ⟨b3, 0, none⟩) 1 1] 25 (0, 0)))) (S' := fun k => k = w.heap.size) ⟨fun k hk => by rw [hk]; exact lt_of_heap h, fun W ht => ht.heap h (fun hn => hn rfl)⟩ (fun k hk => by rw [hk]; exact Nat.le_refl _)
  have h2 : In w0 (w.alloc (.cells #[.slice (some ⟨b1, 0, none⟩) 1 1, .slice (some ⟨b2, 0, none⟩) 1 1, .slice (some ⟨b3, 0, none⟩) 1 1] 25)) (star (star (rd (fun W => W.heap[w.heap.size]? = some (.cells #[.slice (some ⟨b1, 0, none⟩) 1 1, .slice (some ⟨b2, 0, none⟩) 1 1, .slice (some ⟨b3, 0, none⟩) 1 1] 25 (0, 0)))) (star (rdx b3 1) (star (rdx b2 2) (rdx b1 1)))) (star A X)) := h1.ac (by ac_rfl)
  have h3 := h2.imp fun S h => star_mono h (fun S h => rd_and (star_mono h (fun _ => id) (fun S h => rd_and (star_mono h (fun _ => id) (fun S h => rd_and h))))) (fun _ => id)
  have h4 := h3.imp fun S h => star_mono (B' := star A X) (A' := lrsR w.heap.size b1 b2 b3) h (fun S h => rd_imp h fun W q => by
    obtain ⟨q0, q3, q2, q1⟩ := q
    refine ⟨⟨rfl, by omega, fun _ => ⟨_, rfl, lt_of_heap q0, fun j u hu => ?_⟩⟩, rfl, fun i r hr => ?_⟩
    · rcases j with _ | _ | _ | j
      · rw [add_zero0, cell_of_blk q0 0]; simpa using hu
      · exact (cell_of_blk q0 1).trans (by simpa using hu)
      · exact (cell_of_blk q0 2).trans (by simpa using hu)
      · simp at hu
    · rcases i with _ | _ | _ | i
      · obtain rfl : lr = r := by simpa [lrs] using hr
        exact ⟨_, _, _, rfl, q1⟩
      · obtain rfl : lr2 = r := by simpa [lrs] using hr
        exact ⟨_, _, _, rfl, q2⟩
      · obtain rfl : lr = r := by simpa [lrs] using hr
        exact ⟨_, _, _, rfl, q3⟩
      · simp [lrs] at hr) (fun _ => id)
  exact h4.ac (by ac_rfl)
theorem push_list2 (hb : bL = w.heap.size) (g : Good (star A (star (rdx b3 1) (star (rdx b2 2) (star (rdx b1 1) X))))) (V : In w0 w (star A (star (rdx b3 1) (star (rdx b2 2) (star (rdx b1 1) X))))) :
    In w0 (w.alloc (.cells #[.slice (some ⟨b1, 0, none⟩) 1 1, .slice (some ⟨b2, 0, none⟩) 1 1, .slice (some ⟨b3, 0, none⟩) 1 1] 25)) (star A (star (lrsR bL b1 b2 b3) X)) := by
  rw [hb]
  exact push_list g V
abbrev Q50 (bd bl : Nat) (d : Ds) (h : Int) : Res := PL bd bl 50 [] 3 d h
abbrev X0 (bp bd bl : Nat) : Res := star (blkR bp (pbox bd bl)) emp
abbrev X1 (bp bd bl bL b1 b2 b3 : Nat) : Res := star (lrsR bL b1 b2 b3) (X0 bp bd bl)
theorem X0_good : Good (X0 bp bd bl) := star_good (blkR_good _ _) emp_good
theorem X1_good : Good (X1 bp bd bl bL b1 b2 b3) := star_good (rd_good _) X0_good
theorem X0_cells (V : In w0 W (X0 bp bd bl)) : PB bp bd bl W := by
  have hb := V.left.get fun S h => h.1
  exact ⟨cell_of_blk hb 0, cell_of_blk hb 1, cell_of_blk hb 2⟩
theorem v_make (w : World) : Calls Tryz.prog 10 #[.int .i64 50, .slice none 0 0, .int .i64 3] w fun e w' => ∃ bd bl, e = .returned (.tuple #[pv bd bl, .bool true]) ∧ In w (w'.alloc (pbox bd bl)) (star (Q50 bd bl Ds.new 0) (X0 w'.heap.size bd bl)) :=
  (make_yes (R := 50) (G := 3) (F := []) emp_good (In.emp w) (fun W _ => RdI.nil W) (by decide) (by decide) (by decide) (by decide)).mono fun e w' ⟨bd, bl, h1, h2⟩ => ⟨bd, bl, h1, h2.pushB (star_good (PL_good _ _ _ _ _ _ _) emp_good) _⟩
section
theorem v_write (C : LvC z1 z2 z3 z4 d5 x5 z6 d7 ps1 ps2) (V : In w0 W (star (Q50 bd bl Ds.new 0) (X1 bp bd bl bL b1 b2 b3))) :
    Calls Tryz.prog 13 #[pv bd bl, .slice (some ⟨bL, 0, none⟩) 3 3] W fun e w' => e = .returned (.tuple #[.int .i64 1, .int .i64 0]) ∧ PB bp bd bl w' ∧ In w0 w' (star (Q50 bd bl z1.d 0) (X1 bp bd bl bL b1 b2 b3)) := by
  have h := s_write (A := some ⟨bL, 0, none⟩) (n := 3) (c := 3) (rows := lrs) (N := 0) X1_good V (fun W hW => hW.left.get fun S h => rd_get h) ⟨by decide, by decide⟩ (by decide) (by decide)
  refine h.mono fun e w' hh => ?_
  unfold WriteP at hh
  rw [← C.w, C.wn, C.we] at hh
  exact ⟨hh.1, X0_cells hh.2.right.right, hh.2⟩
theorem rd1_zero {b : Nat} (V : In w0 W (star (blkR b (.cells #[.int .i64 0] 3 (0, 0))) X)) : Rd1 W (some ⟨b, 0, none⟩) 1 (i64s [0]) := by
  have hb := V.left.get fun S h => h.1
  refine ⟨rfl, by omega, fun _ => ⟨_, rfl, lt_of_heap hb, fun j u hu => ?_⟩⟩
  rcases j with _ | j
  · rw [add_zero0, cell_of_blk hb 0]; simpa using hu
  · simp at hu
abbrev X2 (bp bd bl bL b1 b2 b3 : Nat) (so : Value) (out : List Int) : Res := star (iR so 2 out) (X1 bp bd bl bL b1 b2 b3)
theorem v_split (C : LvC z1 z2 z3 z4 d5 x5 z6 d7 ps1 ps2) (V : In w0 W (star (Q50 bd bl z1.d 0) (X1 bp bd bl bL b1 b2 b3))) :
    Calls Tryz.prog 29 #[pv bd bl, .int .i64 1, .int .u64 7, .int .i64 0, .int .i64 2, .slice (some ⟨W.heap.size, 0, none⟩) 1 1] (W.alloc (.cells #[.int .i64 0] 3)) fun e w' => ∃ Ao co, e = .returned (.tuple #[.slice Ao 2 co, .int .i64 0]) ∧ PB bp bd bl w' ∧ In w0 w' (star (Q50 bd bl z2.d 0) (X2 bp bd bl bL b1 b2 b3 (.slice Ao 2 co) z2.out)) := by
  have V1 := V.pushB (star_good (PL_good _ _ _ _ _ _ _) X1_good) (.cells #[.int .i64 0] 3 (0, 0))
  have h := split_main (p := lvP) (C := some ⟨W.heap.size, 0, none⟩) (mc := 1) (cc := 1) (m := 2) (N := 5) (ps := ps1) (star_good (blkR_good _ _) X1_good) V1 (fun W hW => rd1_zero hW) (by decide) (by decide) (file := 1) (by decide) C.sf (by decide) C.sle (by decide) (by decide) (by rw [C.sl]; decide) (by rw [C.sk]; decide)
  refine h.mono fun e w' hh => ?_
  unfold SplitP DoneFP at hh
  rw [show splitS lvP 3 z1.d 0 1 ((2 : Nat) : Int) = z2 from C.s.symm, C.se, C.so] at hh
  obtain ⟨Ao, co, h1, h2⟩ := hh
  have h3 : In w0 w' (star (blkR W.heap.size (.cells #[.int .i64 0] 3 (0, 0))) (star (Q50 bd bl z2.d 0) (X2 bp bd bl bL b1 b2 b3 (.slice Ao 2 co) z2.out))) := h2.ac (by dsimp only [X2]; ac_rfl)
  exact ⟨Ao, co, h1, X0_cells h3.right.right.right.right, h3.right⟩
theorem X2_good {so : Value} {out : List Int} : Good (X2 bp bd bl bL b1 b2 b3 so out) := star_good (iR_good _ _ _) X1_good
theorem v_split2 (C : LvC z1 z2 z3 z4 d5 x5 z6 d7 ps1 ps2) {so : Value} (V : In w0 W (star (Q50 bd bl z2.d 0) (X2 bp bd bl bL b1 b2 b3 so z2.out))) :
    Calls Tryz.prog 29 #[pv bd bl, .int .i64 1, .int .u64 7, .int .i64 0, .int .i64 3, .slice (some ⟨W.heap.size, 0, none⟩) 1 1] (W.alloc (.cells #[.int .i64 0] 3)) fun e w' => ∃ v, e = .returned (.tuple #[v, .int .i64 60]) ∧ PB bp bd bl w' ∧ In w0 w' (star (Q50 bd bl z2.d 0) (X2 bp bd bl bL b1 b2 b3 so z2.out)) := by
  have V1 := V.pushB (star_good (PL_good _ _ _ _ _ _ _) X2_good) (.cells #[.int .i64 0] 3 (0, 0))
  have es : splitS lvP 3 z2.d 0 1 3 = ⟨60, z2.d, []⟩ := by unfold splitS; rw [if_neg (by decide), C.tf, if_neg (by simp), if_pos (by decide)]
  have h := split_less (p := lvP) (C := some ⟨W.heap.size, 0, none⟩) (mc := 1) (cc := 1) (n := 3) (file := 1) (ps := ps2) (star_good (blkR_good _ _) X2_good) V1 (by decide) (by decide) C.tf (by decide)
  refine h.mono fun e w' hh => ?_
  unfold SplitP DoneFP at hh
  rw [es] at hh
  obtain ⟨Ao, co, h1, h2⟩ := hh
  have h3 : In w0 w' (star (star (iR (.slice Ao 0 co) 0 []) (blkR W.heap.size (.cells #[.int .i64 0] 3 (0, 0)))) (star (Q50 bd bl z2.d 0) (X2 bp bd bl bL b1 b2 b3 so z2.out))) := h2.ac (by dsimp only [X2, List.length]; ac_rfl)
  exact ⟨_, h1, X0_cells h3.right.right.right.right, h3.right⟩
theorem v_concat (C : LvC z1 z2 z3 z4 d5 x5 z6 d7 ps1 ps2) {Ao : Option Addr} {co : Nat} (V : In w0 W (star (Q50 bd bl z2.d 0) (X2 bp bd bl bL b1 b2 b3 (.slice Ao 2 co) z2.out))) :
    Calls Tryz.prog 33 #[pv bd bl, .slice Ao 2 co] W fun e w' => e = .returned (.tuple #[.int .i64 z3.n, .int .i64 0]) ∧ PB bp bd bl w' ∧ In w0 w' (star (Q50 bd bl z3.d 0) (X2 bp bd bl bL b1 b2 b3 (.slice Ao 2 co) z2.out)) := by
  have h := concat_b (A := Ao) (n := 2) (c := co) (xs := z2.out) (N := 17) X2_good V (fun W hW => iR_rdi hW C.swf) C.tle (by decide) (by decide) (by decide) C.cw C.cf C.cl
  refine h.mono fun e w' hh => ?_
  unfold ConcatP at hh
  rw [← C.c, C.ce] at hh
  exact ⟨hh.1, X0_cells hh.2.right.right.right, hh.2⟩
abbrev X3 (bp bd bl bL b1 b2 b3 : Nat) (so : Value) (out : List Int) (Bl : Option Addr) (hl : List Value) (l : List (List V)) : Res := star (rd (fun W => RdL W Bl 3 hl l)) (X2 bp bd bl bL b1 b2 b3 so out)
theorem X3_good {so : Value} {out : List Int} {Bl : Option Addr} {hl : List Value} {l : List (List V)} : Good (X3 bp bd bl bL b1 b2 b3 so out Bl hl l) := star_good (rd_good _) X2_good
theorem v_all (C : LvC z1 z2 z3 z4 d5 x5 z6 d7 ps1 ps2) {so : Value} (V : In w0 W (star (Q50 bd bl z3.d 0) (X2 bp bd bl bL b1 b2 b3 so z2.out))) :
    Calls Tryz.prog 16 #[pv bd bl, .int .i64 z3.n] W fun e w' => ∃ Bl cl hl, e = .returned (.tuple #[.slice Bl 3 cl, .int .i64 0]) ∧ 3 ≤ cl ∧ PB bp bd bl w' ∧ In w0 w' (star (Q50 bd bl z4.d 0) (X3 bp bd bl bL b1 b2 b3 so z2.out Bl hl z4.l)) := by
  have h := all_cap (n := z3.n) X2_good V C.cwf C.ar (N := 5000) C.cle (by decide)
  have hl : z4.l.length = 3 := by rw [C.al.length_eq]; rfl
  refine h.mono fun e w' hh => ?_
  unfold AllC at hh
  rw [← C.a, if_neg (by rw [C.ae]; decide), hl] at hh
  obtain ⟨B, c, hds, h1, h2, h3⟩ := hh
  exact ⟨B, c, hds, h1, h2, X0_cells h3.right.right.right.right, h3⟩
theorem v_writer (C : LvC z1 z2 z3 z4 d5 x5 z6 d7 ps1 ps2) {so : Value} {Bl : Option Addr} {hl : List Value} (V : In w0 W (star (Q50 bd bl z4.d 0) (X3 bp bd bl bL b1 b2 b3 so z2.out Bl hl z4.l))) :
    Calls Tryz.prog 37 #[pv bd bl] W fun e w' => ∃ bw, e = .returned (.tuple #[wp_ bw, .int .i64 0]) ∧ PB bp bd bl w' ∧ In w0 w' (star (Q50 bd bl d5 1) (star (WR bw bd bl x5) (X3 bp bd bl bL b1 b2 b3 so z2.out Bl hl z4.l))) := by
  have h := writer_c X3_good V (by decide) (by have := C.bm; omega) C.bw
  rw [← C.b, ← C.bx] at h
  exact h.mono fun e w' ⟨bw, h1, h2⟩ => ⟨bw, h1, X0_cells h2.right.right.right.right.right, h2⟩
theorem v_copy (C : LvC z1 z2 z3 z4 d5 x5 z6 d7 ps1 ps2) {so : Value} {Bl : Option Addr} {hl : List Value} (V : In w0 W (star (Q50 bd bl d5 1) (star (WR bw bd bl x5) (X3 bp bd bl bL b1 b2 b3 so z2.out Bl hl z4.l)))) :
    Calls Tryz.prog 64 #[pv bd bl, .int .i64 1, wp_ bw] W fun e w' => e = .returned (.tuple #[.int .i64 3, .int .i64 0]) ∧ In w0 w' (star (Q50 bd bl z6.d 1) (star (WR bw bd bl z6.x) (X3 bp bd bl bL b1 b2 b3 so z2.out Bl hl z4.l))) := by
  have hx : x5.n = 0 := by rw [C.bx]; rfl
  have h := copy_walk (n := 1) (N := 6000) X3_good V (by decide) C.kf C.kle (by rw [hx]; decide) (by decide) (by rw [hx]; decide) C.kl (by decide)
  refine h.mono fun e w' hh => ?_
  unfold EachP at hh
  rw [← C.k, C.kn, C.ke] at hh
  exact hh
theorem v_drop (C : LvC z1 z2 z3 z4 d5 x5 z6 d7 ps1 ps2) {so : Value} {Bl : Option Addr} {hl : List Value} (V : In w0 W (star (Q50 bd bl z6.d 1) (star (WR bw bd bl z6.x) (X3 bp bd bl bL b1 b2 b3 so z2.out Bl hl z4.l)))) :
    Calls Tryz.prog 47 #[wp_ bw] W fun e w' => e = .returned (.tuple #[]) ∧ PB bp bd bl w' ∧ In w0 w' (star (Q50 bd bl d7 0) (X3 bp bd bl bL b1 b2 b3 so z2.out Bl hl z4.l)) := by
  have h := w_drop X3_good V
  refine h.mono fun e w' hh => ?_
  unfold DropP at hh
  rw [← C.e, C.eh] at hh
  have h3 := hh.2.drop
  exact ⟨hh.1, X0_cells h3.right.right.right.right, h3⟩
end
end
end Go.Proofs.YtkbapoeilcapfaaGreat

/- fanout: what must come of every program: what is asked at the end. -/
namespace Go.Proofs.YtkbapoeilcapfaaGreat
open Go.RowKit Go.Maps
set_option linter.unusedVariables false
set_option linter.unusedSimpArgs false
set_option maxRecDepth 6000

theorem sort_all : ∀ n, n ≤ 100000 → ∀ (w : World) (A : Option Addr) (c : Nat) (its : List It), Rd1 w A n (its.map Prod.fst) → RdIts w its → n ≤ c → Calls Tryz.prog 65 #[.slice A n c] w (SortPost w n its) := by
  intro n
  induction n using Nat.strongRecOn with
  | _ n ih =>
    intro hn w A c its hr hi hc
    by_cases h2 : n < 2
    · exact sort_small its hr hi h2
    · exact sort_big its hr hi (by omega) hc hn fun m hm W B c' js h3 h4 h5 => ih m hm (by omega) W B c' js h3 h4 h5
/-- Rows sorted. -/
structure Sd (W : World) (A : Option Addr) (js : List It) : Prop where
  rd : Rd1 W A 3 (js.map Prod.fst)
  its : RdIts W js
  perm : (js.map Prod.snd).Perm lrs
  srt : (js.map Prod.snd).Pairwise leR
theorem Sd.below {w W : World} {A : Option Addr} {js : List It} (h : Sd w A js) (b : Below w.heap.size w W) : Sd W A js := ⟨h.rd.below b, h.its.below b, h.perm, h.srt⟩
theorem RdL.zips {w : World} {A : Option Addr} {n : Nat} {hds : List Value} {rows : Rows} (h : RdL w A n hds rows) : Rd1 w A n ((hds.zip rows).map Prod.fst) ∧ RdIts w (hds.zip rows) ∧ (hds.zip rows).map Prod.snd = rows := by
  obtain ⟨a, b, c⟩ := h.its
  exact ⟨by rw [a]; exact h.hd, c, b⟩
theorem sort_sd {w : World} {A : Option Addr} {c : Nat} {hds : List Value} {rows : Rows} (h : RdL w A 3 hds rows) (hp : rows.Perm lrs) (hc : 3 ≤ c) :
    Calls Tryz.prog 65 #[.slice A 3 c] w fun e w' => ∃ A2 c2 js, e = .returned (.slice A2 3 c2) ∧ Sd w' A2 js ∧ Below w.heap.size w w' := by
  obtain ⟨a, b, d⟩ := h.zips
  refine (sort_all 3 (by decide) w A c (hds.zip rows) a b hc).mono fun e w' hh => ?_
  obtain ⟨v, js, h1, h2, h3, h4, h5⟩ := hh
  obtain ⟨A2, c2, rfl⟩ := own_slice h2
  refine ⟨A2, c2, js, h1, ⟨(Rd1.of_own h2).2, fun x hx => (b.below h5) x (h3.mem_iff.1 hx), ?_, ?_⟩, h5⟩
  · have := h3.map Prod.snd
    rw [d] at this
    exact this.trans hp
  · exact List.pairwise_map.2 h4
section
variable {w0 w W : World} {bd bl bw bp bL b1 b2 b3 : Nat} {A B X : Res} {z1 : Wt} {z2 : Sp} {z3 : Wt} {z4 : Rt} {d5 : Ds} {x5 : Ws} {z6 : Et} {d7 : Ds} {ps1 ps2 : List Pg} {A1 A2 Ao Bl : Option Addr} {c1 c2 co cl : Nat} {j1 j2 : List It} {hl : List Value} {so : Value}
abbrev XE (bp bd bl bL b1 b2 b3 : Nat) (d7 : Ds) (so : Value) (out : List Int) (Bl : Option Addr) (hl : List Value) (l : List (List V)) : Res := star (Q50 bd bl d7 0) (X3 bp bd bl bL b1 b2 b3 so out Bl hl l)
theorem XE_good {out : List Int} {l : List (List V)} : Good (XE bp bd bl bL b1 b2 b3 d7 so out Bl hl l) := star_good (PL_good _ _ _ _ _ _ _) X3_good
theorem XE_s {out : List Int} {l : List (List V)} (V : In w0 W (XE bp bd bl bL b1 b2 b3 d7 so out Bl hl l)) : In w0 W (star (Q50 bd bl d7 0) (X0 bp bd bl)) := by
  have V1 : In w0 W (star (star (rd (fun W => RdL W Bl 3 hl l)) (star (iR so 2 out) (lrsR bL b1 b2 b3))) (star (Q50 bd bl d7 0) (X0 bp bd bl))) := V.ac (by dsimp only [XE, X3, X2, X1]; ac_rfl)
  exact V1.right
theorem v_sort1 (C : LvC z1 z2 z3 z4 d5 x5 z6 d7 ps1 ps2) (V : In w0 W (XE bp bd bl bL b1 b2 b3 d7 so z2.out Bl hl z4.l)) (hc : 3 ≤ cl) :
    Calls Tryz.prog 65 #[.slice Bl 3 cl] W fun e w' => ∃ A2 c2 js, e = .returned (.slice A2 3 c2) ∧ Sd w' A2 js ∧ In w0 w' (XE bp bd bl bL b1 b2 b3 d7 so z2.out Bl hl z4.l) :=
  (sort_sd (V.right.left.get fun S h => rd_get h) C.al hc).mono fun e w' ⟨A2, c2, js, h1, h2, h3⟩ => ⟨A2, c2, js, h1, h2, V.below XE_good h3⟩
theorem v_sort2 {out : List Int} {l : List (List V)} (V : In w0 W (XE bp bd bl bL b1 b2 b3 d7 so out Bl hl l)) (h : Sd W A1 j1) :
    Calls Tryz.prog 65 #[.slice (some ⟨bL, 0, none⟩) 3 3] W fun e w' => ∃ A2 c2 js, e = .returned (.slice A2 3 c2) ∧ Sd w' A1 j1 ∧ Sd w' A2 js ∧ In w0 w' (XE bp bd bl bL b1 b2 b3 d7 so out Bl hl l) :=
  (sort_sd (V.right.right.right.left.get fun S h => rd_get h) (List.Perm.refl _) (by decide)).mono fun e w' ⟨A2, c2, js, h1, h2, h3⟩ => ⟨A2, c2, js, h1, h.below h3, h2, V.below XE_good h3⟩
theorem v_same {out : List Int} {l : List (List V)} (V : In w0 W (XE bp bd bl bL b1 b2 b3 d7 so out Bl hl l)) (h1 : Sd W A1 j1) (h2 : Sd W A2 j2) :
    Calls Tryz.prog 18 #[.slice A1 3 c1, .slice A2 3 c2] W fun e w' => e = .returned (.bool true) ∧ In w0 w' (XE bp bd bl bL b1 b2 b3 d7 so out Bl hl l) :=
  (samelist_rows j1 j2 h1.rd h2.rd h1.its h2.its (sorted_perm (h1.perm.trans h2.perm.symm) h1.srt h2.srt)).mono fun e w' h => ⟨h.1, V.below XE_good h.2⟩
theorem v_grow {w3 w4 : World} {v1 : Value} (V : In w0 w3 (XE bp bd bl bL b1 b2 b3 d7 (.slice Ao 2 co) z2.out Bl hl z4.l)) (h1 : w4.ownsRow 0 3 1 v1 3 (i64s z2.out ++ [.int .i64 99])) (ht : Turn (fun k => (Value.slice Ao 2 co).ownBlock = some k) w3 w4) (hor : v1.ownBlock = (Value.slice Ao 2 co).ownBlock ∨ ∃ b, v1.ownBlock = some b ∧ w3.heap.size ≤ b) :
    (∃ A c, v1 = .slice A 3 c) ∧ In w0 w4 (star (Q50 bd bl d7 0) (X0 bp bd bl)) ∧ In w0 w4 (star (Q50 bd bl d7 0) (star (iR v1 3 (z2.out ++ [99])) (X0 bp bd bl))) := by
  have V1 : In w0 w3 (star (star (rd (fun W => RdL W Bl 3 hl z4.l)) (lrsR bL b1 b2 b3)) (star (iR (.slice Ao 2 co) 2 z2.out) (star (Q50 bd bl d7 0) (X0 bp bd bl)))) := V.ac (by dsimp only [XE, X3, X2, X1]; ac_rfl)
  have V2 := V1.right.grow (star_good (PL_good _ _ _ _ _ _ _) X0_good) h1 ht hor
  have eo : i64s z2.out ++ [Value.int .i64 99] = i64s (z2.out ++ [99]) := by simp
  rw [eo] at V2
  exact ⟨own_slice h1, V2.right, V2.swap⟩
theorem v_widest (C : LvC z1 z2 z3 z4 d5 x5 z6 d7 ps1 ps2) {c : Nat} (V : In w0 W (star (Q50 bd bl d7 0) (star (iR (.slice Ao 3 c) 3 (z2.out ++ [99])) (X0 bp bd bl)))) :
    Calls Tryz.prog 32 #[pv bd bl, .slice Ao 3 c] W fun e w' => e = .returned (.int .i64 1) ∧ In w0 w' (star (Q50 bd bl d7 0) (X0 bp bd bl)) := by
  have h := widest_walk (A := Ao) (n := 3) (c := c) (xs := z2.out ++ [99]) (star_good (iR_good _ _ _) X0_good) V (fun W hW => iR_rdi hW fun x hx => by
    rcases List.mem_append.1 hx with hx | hx
    · exact C.swf x hx
    · rw [List.mem_singleton.1 hx]; decide)
  rw [C.ew] at h
  exact h.mono fun e w' hh => ⟨hh.1, hh.2.drop⟩
theorem v_clean (C : LvC z1 z2 z3 z4 d5 x5 z6 d7 ps1 ps2) (V : In w0 W (star (Q50 bd bl d7 0) (X0 bp bd bl))) :
    Calls Tryz.prog 15 #[pv bd bl, .int .i64 4] W fun e w' => e = .returned (.bool true) ∧ In w0 w' (star (Q50 bd bl d7 0) (X0 bp bd bl)) := by
  refine (clean_walk X0_good V 4).mono fun e w' hh => ⟨?_, hh.2⟩
  rw [hh.1, C.efs]
  rfl
end
end Go.Proofs.YtkbapoeilcapfaaGreat

/- fanout: what must come of every program: it does. -/
namespace Go.Proofs.YtkbapoeilcapfaaGreat
open Go.RowKit Go.Maps
set_option linter.unusedVariables false
set_option linter.unusedSimpArgs false
set_option maxRecDepth 6000

set_option maxRecDepth 100000 in
set_option maxHeartbeats 4000000 in
theorem flives (w : World) : Calls Tryz.prog 28 #[] w fun e w' => e = .returned (.bool true) ∧ Below w.heap.size w w' := by
  have C0 := Lib.hid (v_make w)
  have C1 := Lib.hid (fun w1 x => refint w1 x)
  obtain ⟨z1, z2, z3, z4, d5, x5, z6, d7, ps1, ps2, CC⟩ := lv_chain
  have CC := Lib.hid CC
  go_enter Tryz.func28, Tryz.ntmps28
  go_wp2_with (first
    | (go_at_call 10; (with_reducible refine C0.out.mono ?_); rintro e w1 ⟨bd, bl, rfl, V⟩; have V1 := Lib.hid V; clear V C0)
    | (go_at_call 36; (with_reducible refine (C1.out _ _).mono ?_); rintro e w2 ⟨rfl, b⟩; have V2 := Lib.hid (push_row (star_good (PL_good _ _ _ _ _ _ _) X0_good) (V1.out.below (star_good (PL_good _ _ _ _ _ _ _) X0_good) b) 1); clear b V1)
    | (go_at_call 36; (with_reducible refine (C1.out _ _).mono ?_); rintro e w3 ⟨rfl, b⟩; have V3 := Lib.hid (push_row (star_good (PL_good _ _ _ _ _ _ _) (star_good (rd_good _) X0_good)) (V2.out.below (star_good (PL_good _ _ _ _ _ _ _) (star_good (rd_good _) X0_good)) b) 2); clear b V2)
    | (go_at_call 36; (with_reducible refine (C1.out _ _).mono ?_); rintro e w4 ⟨rfl, b⟩; have V4 := Lib.hid (push_list2 (bL := w4.heap.size + 1) (by simp) (star_good (PL_good _ _ _ _ _ _ _) (star_good (rd_good _) (star_good (rd_good _) (star_good (rd_good _) X0_good)))) (push_row (star_good (PL_good _ _ _ _ _ _ _) (star_good (rd_good _) (star_good (rd_good _) X0_good))) (V3.out.below (star_good (PL_good _ _ _ _ _ _ _) (star_good (rd_good _) (star_good (rd_good _) X0_good))) b) 1)); obtain ⟨k0, k1, k2⟩ := X0_cells V4.out.right.right; clear b V3 C1)
    | (go_at_call 13; (with_reducible refine (v_write CC.out V4.out).mono ?_); rintro e w5 ⟨rfl, ⟨k05, k15, k25⟩, V⟩; have V5 := Lib.hid V; clear V V4)
    | (go_at_call 29; (with_reducible refine (v_split CC.out V5.out).mono ?_); rintro e w6 ⟨Ao, co, rfl, ⟨k06, k16, k26⟩, V⟩; have V6 := Lib.hid V; clear V V5)
    | (go_at_call 29; (with_reducible refine (v_split2 CC.out V6.out).mono ?_); rintro e w7 ⟨vN, rfl, ⟨k07, k17, k27⟩, V⟩; have V7 := Lib.hid V; clear V V6)
    | (go_at_call 33; (with_reducible refine (v_concat CC.out V7.out).mono ?_); rintro e w8 ⟨rfl, ⟨k08, k18, k28⟩, V⟩; have V8 := Lib.hid V; clear V V7)
    | (go_at_call 16; (with_reducible refine (v_all CC.out V8.out).mono ?_); rintro e w9 ⟨Bl, cl, hl, rfl, hcl, ⟨k09, k19, k29⟩, V⟩; have V9 := Lib.hid V; clear V V8)
    | (go_at_call 37; (with_reducible refine (v_writer CC.out V9.out).mono ?_); rintro e w10 ⟨bw, rfl, ⟨k010, k110, k210⟩, V⟩; have V10 := Lib.hid V; clear V V9)
    | (go_at_call 64; (with_reducible refine (v_copy CC.out V10.out).mono ?_); rintro e w11 ⟨rfl, V⟩; have V11 := Lib.hid V; clear V V10)
    | (go_at_call 47; (with_reducible refine (v_drop CC.out V11.out).mono ?_); rintro e w12 ⟨rfl, ⟨k012, k112, k212⟩, V⟩; have V12 := Lib.hid V; clear V V11))
  have D12 := Lib.hid (in_drew XE_good V12.out)
  have hs12 := XE_s D12.out
  clear V12
  refine wp_region_held (S := fun w' => In w w' (star (Q50 bd bl d7 0) (X0 w1.heap.size bd bl))) (by kernel_rfl) ?_
  change wpAnyH _ _ _ _ _ _ _ _ (World.drew _)
  have nS : (fun w' => In w w' (star (Q50 bd bl d7 0) (X0 w1.heap.size bd bl))) w12.drew := hs12
  clear hs12
  refine wpAnyH_take (i := 0) (oi := { dst := some 77, op := .move (.tmp 5), type := _, pos := _, after := _, guard := none }) (v := .int .i64 0) rfl (by kernel_rfl) (by kernel_rfl) (by kernel_rfl) (fun _ _ _ h => h) (Or.inl ⟨by rfl, ?_⟩) nS ?_
  · intro w7 hSw
    try dsimp only at hSw
    go_simp
  try simp only [Act.put, List.setIfInBounds_toArray, List.set_cons_zero, List.set_cons_succ]
  refine wpAnyH_take (i := 1) (oi := { dst := some 78, op := .binOp .eql 38 (.tmp 77) (.const (.int .i64 0)) 38, type := _, pos := _, after := _, guard := none }) (v := .bool true) rfl (by kernel_rfl) (by kernel_rfl) (by kernel_rfl) (fun _ _ _ h => h) (Or.inl ⟨by rfl, ?_⟩) nS ?_
  · intro w7 hSw
    try dsimp only at hSw
    go_simp
  try simp only [Act.put, List.setIfInBounds_toArray, List.set_cons_zero, List.set_cons_succ]
  refine wpAnyH_take (i := 2) (oi := { dst := some 79, op := .move (.tmp 78), type := _, pos := _, after := _, guard := none }) (v := .bool true) rfl (by kernel_rfl) (by kernel_rfl) (by kernel_rfl) (fun _ _ _ h => h) (Or.inl ⟨by rfl, ?_⟩) nS ?_
  · intro w7 hSw
    try dsimp only at hSw
    go_simp
  try simp only [Act.put, List.setIfInBounds_toArray, List.set_cons_zero, List.set_cons_succ]
  refine wpAnyH_take (i := 3) (oi := { dst := some 80, op := .move (.tmp 7), type := _, pos := _, after := _, guard := some (2, true) }) (v := .int .i64 0) rfl (by kernel_rfl) (by kernel_rfl) (by kernel_rfl) (fun _ _ _ h => h) (Or.inl ⟨by rfl, ?_⟩) nS ?_
  · intro w7 hSw
    try dsimp only at hSw
    go_simp
  try simp only [Act.put, List.setIfInBounds_toArray, List.set_cons_zero, List.set_cons_succ]
  refine wpAnyH_take (i := 4) (oi := { dst := some 81, op := .binOp .eql 38 (.tmp 80) (.const (.int .i64 0)) 38, type := _, pos := _, after := _, guard := some (2, true) }) (v := .bool true) rfl (by kernel_rfl) (by kernel_rfl) (by kernel_rfl) (fun _ _ _ h => h) (Or.inl ⟨by rfl, ?_⟩) nS ?_
  · intro w7 hSw
    try dsimp only at hSw
    go_simp
  try simp only [Act.put, List.setIfInBounds_toArray, List.set_cons_zero, List.set_cons_succ]
  refine wpAnyH_take (i := 5) (oi := { dst := some 82, op := .pick (.tmp 79) (.tmp 81) (.const (.bool false)), type := _, pos := _, after := _, guard := none }) (v := .bool true) rfl (by kernel_rfl) (by kernel_rfl) (by kernel_rfl) (fun _ _ _ h => h) (Or.inl ⟨by rfl, ?_⟩) nS ?_
  · intro w7 hSw
    try dsimp only at hSw
    go_simp
  try simp only [Act.put, List.setIfInBounds_toArray, List.set_cons_zero, List.set_cons_succ]
  refine wpAnyH_take (i := 6) (oi := { dst := some 83, op := .move (.tmp 82), type := _, pos := _, after := _, guard := none }) (v := .bool true) rfl (by kernel_rfl) (by kernel_rfl) (by kernel_rfl) (fun _ _ _ h => h) (Or.inl ⟨by rfl, ?_⟩) nS ?_
  · intro w7 hSw
    try dsimp only at hSw
    go_simp
  try simp only [Act.put, List.setIfInBounds_toArray, List.set_cons_zero, List.set_cons_succ]
  refine wpAnyH_take (i := 7) (oi := { dst := some 84, op := .move (.tmp 6), type := _, pos := _, after := _, guard := some (6, true) }) (v := .slice Ao 2 co) rfl (by kernel_rfl) (by kernel_rfl) (by kernel_rfl) (fun _ _ _ h => h) (Or.inl ⟨by rfl, ?_⟩) nS ?_
  · intro w7 hSw
    try dsimp only at hSw
    go_simp
  try simp only [Act.put, List.setIfInBounds_toArray, List.set_cons_zero, List.set_cons_succ]
  refine wpAnyH_take (i := 8) (oi := { dst := some 85, op := .call { callee := .builtin .len, args := #[.tmp 84], argTypes := #[22 ] }, type := _, pos := _, after := _, guard := some (6, true) }) (v := .int .i64 2) rfl (by kernel_rfl) (by kernel_rfl) (by kernel_rfl) (fun _ _ _ h => h) (Or.inl ⟨by rfl, ?_⟩) nS ?_
  · intro w7 hSw
    try dsimp only at hSw
    go_simp
  try simp only [Act.put, List.setIfInBounds_toArray, List.set_cons_zero, List.set_cons_succ]
  refine wpAnyH_take (i := 9) (oi := { dst := some 86, op := .binOp .eql 3 (.tmp 85) (.const (.int .i64 2)) 3, type := _, pos := _, after := _, guard := some (6, true) }) (v := .bool true) rfl (by kernel_rfl) (by kernel_rfl) (by kernel_rfl) (fun _ _ _ h => h) (Or.inl ⟨by rfl, ?_⟩) nS ?_
  · intro w7 hSw
    try dsimp only at hSw
    go_simp
  try simp only [Act.put, List.setIfInBounds_toArray, List.set_cons_zero, List.set_cons_succ]
  refine wpAnyH_take (i := 10) (oi := { dst := some 87, op := .pick (.tmp 83) (.tmp 86) (.const (.bool false)), type := _, pos := _, after := _, guard := none }) (v := .bool true) rfl (by kernel_rfl) (by kernel_rfl) (by kernel_rfl) (fun _ _ _ h => h) (Or.inl ⟨by rfl, ?_⟩) nS ?_
  · intro w7 hSw
    try dsimp only at hSw
    go_simp
  try simp only [Act.put, List.setIfInBounds_toArray, List.set_cons_zero, List.set_cons_succ]
  refine wpAnyH_take (i := 11) (oi := { dst := some 88, op := .move (.tmp 87), type := _, pos := _, after := _, guard := none }) (v := .bool true) rfl (by kernel_rfl) (by kernel_rfl) (by kernel_rfl) (fun _ _ _ h => h) (Or.inl ⟨by rfl, ?_⟩) nS ?_
  · intro w7 hSw
    try dsimp only at hSw
    go_simp
  try simp only [Act.put, List.setIfInBounds_toArray, List.set_cons_zero, List.set_cons_succ]
  refine wpAnyH_take (i := 12) (oi := { dst := some 89, op := .move (.tmp 9), type := _, pos := _, after := _, guard := some (11, true) }) (v := .int .i64 60) rfl (by kernel_rfl) (by kernel_rfl) (by kernel_rfl) (fun _ _ _ h => h) (Or.inl ⟨by rfl, ?_⟩) nS ?_
  · intro w7 hSw
    try dsimp only at hSw
    go_simp
  try simp only [Act.put, List.setIfInBounds_toArray, List.set_cons_zero, List.set_cons_succ]
  refine wpAnyH_take (i := 13) (oi := { dst := some 90, op := .binOp .eql 38 (.tmp 89) (.const (.int .i64 60)) 38, type := _, pos := _, after := _, guard := some (11, true) }) (v := .bool true) rfl (by kernel_rfl) (by kernel_rfl) (by kernel_rfl) (fun _ _ _ h => h) (Or.inl ⟨by rfl, ?_⟩) nS ?_
  · intro w7 hSw
    try dsimp only at hSw
    go_simp
  try simp only [Act.put, List.setIfInBounds_toArray, List.set_cons_zero, List.set_cons_succ]
  refine wpAnyH_take (i := 14) (oi := { dst := some 91, op := .pick (.tmp 88) (.tmp 90) (.const (.bool false)), type := _, pos := _, after := _, guard := none }) (v := .bool true) rfl (by kernel_rfl) (by kernel_rfl) (by kernel_rfl) (fun _ _ _ h => h) (Or.inl ⟨by rfl, ?_⟩) nS ?_
  · intro w7 hSw
    try dsimp only at hSw
    go_simp
  try simp only [Act.put, List.setIfInBounds_toArray, List.set_cons_zero, List.set_cons_succ]
  refine wpAnyH_take (i := 15) (oi := { dst := some 92, op := .move (.tmp 91), type := _, pos := _, after := _, guard := none }) (v := .bool true) rfl (by kernel_rfl) (by kernel_rfl) (by kernel_rfl) (fun _ _ _ h => h) (Or.inl ⟨by rfl, ?_⟩) nS ?_
  · intro w7 hSw
    try dsimp only at hSw
    go_simp
  try simp only [Act.put, List.setIfInBounds_toArray, List.set_cons_zero, List.set_cons_succ]
  refine wpAnyH_take (i := 16) (oi := { dst := some 93, op := .move (.tmp 11), type := _, pos := _, after := _, guard := some (15, true) }) (v := .int .i64 0) rfl (by kernel_rfl) (by kernel_rfl) (by kernel_rfl) (fun _ _ _ h => h) (Or.inl ⟨by rfl, ?_⟩) nS ?_
  · intro w7 hSw
    try dsimp only at hSw
    go_simp
  try simp only [Act.put, List.setIfInBounds_toArray, List.set_cons_zero, List.set_cons_succ]
  refine wpAnyH_take (i := 17) (oi := { dst := some 94, op := .binOp .eql 38 (.tmp 93) (.const (.int .i64 0)) 38, type := _, pos := _, after := _, guard := some (15, true) }) (v := .bool true) rfl (by kernel_rfl) (by kernel_rfl) (by kernel_rfl) (fun _ _ _ h => h) (Or.inl ⟨by rfl, ?_⟩) nS ?_
  · intro w7 hSw
    try dsimp only at hSw
    go_simp
  try simp only [Act.put, List.setIfInBounds_toArray, List.set_cons_zero, List.set_cons_succ]
  refine wpAnyH_take (i := 18) (oi := { dst := some 95, op := .pick (.tmp 92) (.tmp 94) (.const (.bool false)), type := _, pos := _, after := _, guard := none }) (v := .bool true) rfl (by kernel_rfl) (by kernel_rfl) (by kernel_rfl) (fun _ _ _ h => h) (Or.inl ⟨by rfl, ?_⟩) nS ?_
  · intro w7 hSw
    try dsimp only at hSw
    go_simp
  try simp only [Act.put, List.setIfInBounds_toArray, List.set_cons_zero, List.set_cons_succ]
  refine wpAnyH_take (i := 19) (oi := { dst := some 96, op := .move (.tmp 95), type := _, pos := _, after := _, guard := none }) (v := .bool true) rfl (by kernel_rfl) (by kernel_rfl) (by kernel_rfl) (fun _ _ _ h => h) (Or.inl ⟨by rfl, ?_⟩) nS ?_
  · intro w7 hSw
    try dsimp only at hSw
    go_simp
  try simp only [Act.put, List.setIfInBounds_toArray, List.set_cons_zero, List.set_cons_succ]
  refine wpAnyH_take (i := 20) (oi := { dst := some 97, op := .move (.tmp 13), type := _, pos := _, after := _, guard := some (19, true) }) (v := .int .i64 0) rfl (by kernel_rfl) (by kernel_rfl) (by kernel_rfl) (fun _ _ _ h => h) (Or.inl ⟨by rfl, ?_⟩) nS ?_
  · intro w7 hSw
    try dsimp only at hSw
    go_simp
  try simp only [Act.put, List.setIfInBounds_toArray, List.set_cons_zero, List.set_cons_succ]
  refine wpAnyH_take (i := 21) (oi := { dst := some 98, op := .binOp .eql 38 (.tmp 97) (.const (.int .i64 0)) 38, type := _, pos := _, after := _, guard := some (19, true) }) (v := .bool true) rfl (by kernel_rfl) (by kernel_rfl) (by kernel_rfl) (fun _ _ _ h => h) (Or.inl ⟨by rfl, ?_⟩) nS ?_
  · intro w7 hSw
    try dsimp only at hSw
    go_simp
  try simp only [Act.put, List.setIfInBounds_toArray, List.set_cons_zero, List.set_cons_succ]
  refine wpAnyH_take (i := 22) (oi := { dst := some 99, op := .pick (.tmp 96) (.tmp 98) (.const (.bool false)), type := _, pos := _, after := _, guard := none }) (v := .bool true) rfl (by kernel_rfl) (by kernel_rfl) (by kernel_rfl) (fun _ _ _ h => h) (Or.inl ⟨by rfl, ?_⟩) nS ?_
  · intro w7 hSw
    try dsimp only at hSw
    go_simp
  try simp only [Act.put, List.setIfInBounds_toArray, List.set_cons_zero, List.set_cons_succ]
  refine wpAnyH_take (i := 23) (oi := { dst := some 100, op := .move (.tmp 99), type := _, pos := _, after := _, guard := none }) (v := .bool true) rfl (by kernel_rfl) (by kernel_rfl) (by kernel_rfl) (fun _ _ _ h => h) (Or.inl ⟨by rfl, ?_⟩) nS ?_
  · intro w7 hSw
    try dsimp only at hSw
    go_simp
  try simp only [Act.put, List.setIfInBounds_toArray, List.set_cons_zero, List.set_cons_succ]
  refine wpAnyH_take (i := 24) (oi := { dst := some 101, op := .move (.tmp 12), type := _, pos := _, after := _, guard := some (23, true) }) (v := .slice Bl 3 cl) rfl (by kernel_rfl) (by kernel_rfl) (by kernel_rfl) (fun _ _ _ h => h) (Or.inl ⟨by rfl, ?_⟩) nS ?_
  · intro w7 hSw
    try dsimp only at hSw
    go_simp
  try simp only [Act.put, List.setIfInBounds_toArray, List.set_cons_zero, List.set_cons_succ]
  refine wpAnyH_take (i := 26) (oi := { dst := some 103, op := .move (.tmp 3), type := _, pos := _, after := _, guard := some (23, true) }) (v := .slice (some ⟨w4.heap.size + 1, 0, none⟩) 3 3) rfl (by kernel_rfl) (by kernel_rfl) (by kernel_rfl) (fun _ _ _ h => h) (Or.inl ⟨by rfl, ?_⟩) nS ?_
  · intro w7 hSw
    try dsimp only at hSw
    go_simp
  try simp only [Act.put, List.setIfInBounds_toArray, List.set_cons_zero, List.set_cons_succ]
  refine wpAnyH_all (rs := [25]) (by kernel_rfl) (by simp) (fun y hy => ?_)
  obtain rfl := List.mem_singleton.1 hy
  clear hy
  refine wpOp_step (o := { dst := some 102, op := .call { callee := .value (.func 65), args := #[.tmp 101], argTypes := #[23 ] }, type := _, pos := _, after := _, guard := some (23, true) }) (by simp; exact ⟨rfl, rfl, rfl⟩) (fun K hK => ?_)
  go_simp
  go_at_call 65
  (with_reducible refine (v_sort1 CC.out D12.out hcl).mono ?_)
  rintro e w13 ⟨A1, c1, j1, rfl, sd1, V⟩
  have V13 := Lib.hid (And.intro V sd1)
  clear V sd1
  refine hK _ _ ⟨XE_s V13.out.1, ?_⟩
  clear hK K
  go_simp
  try simp only [Act.put, List.setIfInBounds_toArray, List.set_cons_zero, List.set_cons_succ]
  refine wpAnyH_all (rs := [27]) (by kernel_rfl) (by simp) (fun y hy => ?_)
  obtain rfl := List.mem_singleton.1 hy
  clear hy
  refine wpOp_step (o := { dst := some 104, op := .call { callee := .value (.func 65), args := #[.tmp 103], argTypes := #[23 ] }, type := _, pos := _, after := _, guard := some (23, true) }) (by simp; exact ⟨rfl, rfl, rfl⟩) (fun K hK => ?_)
  go_simp
  go_at_call 65
  (with_reducible refine (v_sort2 V13.out.1 V13.out.2).mono ?_)
  rintro e w14 ⟨A2, c2, j2, rfl, sd1, sd2, V⟩
  have V14 := Lib.hid (And.intro V (And.intro sd1 sd2))
  clear V sd1 sd2 V13
  refine hK _ _ ⟨XE_s V14.out.1, ?_⟩
  clear hK K
  go_simp
  try simp only [Act.put, List.setIfInBounds_toArray, List.set_cons_zero, List.set_cons_succ]
  refine wpAnyH_all (rs := [28]) (by kernel_rfl) (by simp) (fun y hy => ?_)
  obtain rfl := List.mem_singleton.1 hy
  clear hy
  refine wpOp_step (o := { dst := some 105, op := .call { callee := .value (.func 18), args := #[.tmp 102, .tmp 104], argTypes := #[23, 23 ] }, type := _, pos := _, after := _, guard := some (23, true) }) (by simp; exact ⟨rfl, rfl, rfl⟩) (fun K hK => ?_)
  go_simp
  go_at_call 18
  (with_reducible refine (v_same V14.out.1 V14.out.2.1 V14.out.2.2).mono ?_)
  rintro e w15 ⟨rfl, V⟩
  have V15 := Lib.hid V
  clear V V14
  refine hK _ _ ⟨XE_s V15.out, ?_⟩
  clear hK K
  go_simp
  try simp only [Act.put, List.setIfInBounds_toArray, List.set_cons_zero, List.set_cons_succ]
  have hS15 := XE_s V15.out
  refine wpAnyH_take (i := 29) (oi := { dst := some 106, op := .pick (.tmp 100) (.tmp 105) (.const (.bool false)), type := _, pos := _, after := _, guard := none }) (v := .bool true) rfl (by kernel_rfl) (by kernel_rfl) (by kernel_rfl) (fun _ _ _ h => h) (Or.inl ⟨by rfl, ?_⟩) hS15 ?_
  · intro w7 hSw
    try dsimp only at hSw
    go_simp
  try simp only [Act.put, List.setIfInBounds_toArray, List.set_cons_zero, List.set_cons_succ]
  refine wpAnyH_take (i := 30) (oi := { dst := some 107, op := .move (.tmp 106), type := _, pos := _, after := _, guard := none }) (v := .bool true) rfl (by kernel_rfl) (by kernel_rfl) (by kernel_rfl) (fun _ _ _ h => h) (Or.inl ⟨by rfl, ?_⟩) hS15 ?_
  · intro w7 hSw
    try dsimp only at hSw
    go_simp
  try simp only [Act.put, List.setIfInBounds_toArray, List.set_cons_zero, List.set_cons_succ]
  refine wpAnyH_take (i := 31) (oi := { dst := some 108, op := .move (.tmp 15), type := _, pos := _, after := _, guard := some (30, true) }) (v := .int .i64 0) rfl (by kernel_rfl) (by kernel_rfl) (by kernel_rfl) (fun _ _ _ h => h) (Or.inl ⟨by rfl, ?_⟩) hS15 ?_
  · intro w7 hSw
    try dsimp only at hSw
    go_simp
  try simp only [Act.put, List.setIfInBounds_toArray, List.set_cons_zero, List.set_cons_succ]
  refine wpAnyH_take (i := 32) (oi := { dst := some 109, op := .binOp .eql 38 (.tmp 108) (.const (.int .i64 0)) 38, type := _, pos := _, after := _, guard := some (30, true) }) (v := .bool true) rfl (by kernel_rfl) (by kernel_rfl) (by kernel_rfl) (fun _ _ _ h => h) (Or.inl ⟨by rfl, ?_⟩) hS15 ?_
  · intro w7 hSw
    try dsimp only at hSw
    go_simp
  try simp only [Act.put, List.setIfInBounds_toArray, List.set_cons_zero, List.set_cons_succ]
  refine wpAnyH_take (i := 33) (oi := { dst := some 110, op := .pick (.tmp 107) (.tmp 109) (.const (.bool false)), type := _, pos := _, after := _, guard := none }) (v := .bool true) rfl (by kernel_rfl) (by kernel_rfl) (by kernel_rfl) (fun _ _ _ h => h) (Or.inl ⟨by rfl, ?_⟩) hS15 ?_
  · intro w7 hSw
    try dsimp only at hSw
    go_simp
  try simp only [Act.put, List.setIfInBounds_toArray, List.set_cons_zero, List.set_cons_succ]
  refine wpAnyH_take (i := 34) (oi := { dst := some 111, op := .move (.tmp 110), type := _, pos := _, after := _, guard := none }) (v := .bool true) rfl (by kernel_rfl) (by kernel_rfl) (by kernel_rfl) (fun _ _ _ h => h) (Or.inl ⟨by rfl, ?_⟩) hS15 ?_
  · intro w7 hSw
    try dsimp only at hSw
    go_simp
  try simp only [Act.put, List.setIfInBounds_toArray, List.set_cons_zero, List.set_cons_succ]
  refine wpAnyH_take (i := 35) (oi := { dst := some 112, op := .move (.tmp 16), type := _, pos := _, after := _, guard := some (34, true) }) (v := .int .i64 3) rfl (by kernel_rfl) (by kernel_rfl) (by kernel_rfl) (fun _ _ _ h => h) (Or.inl ⟨by rfl, ?_⟩) hS15 ?_
  · intro w7 hSw
    try dsimp only at hSw
    go_simp
  try simp only [Act.put, List.setIfInBounds_toArray, List.set_cons_zero, List.set_cons_succ]
  refine wpAnyH_take (i := 36) (oi := { dst := some 113, op := .binOp .eql 3 (.tmp 112) (.const (.int .i64 3)) 3, type := _, pos := _, after := _, guard := some (34, true) }) (v := .bool true) rfl (by kernel_rfl) (by kernel_rfl) (by kernel_rfl) (fun _ _ _ h => h) (Or.inl ⟨by rfl, ?_⟩) hS15 ?_
  · intro w7 hSw
    try dsimp only at hSw
    go_simp
  try simp only [Act.put, List.setIfInBounds_toArray, List.set_cons_zero, List.set_cons_succ]
  refine wpAnyH_take (i := 37) (oi := { dst := some 114, op := .pick (.tmp 111) (.tmp 113) (.const (.bool false)), type := _, pos := _, after := _, guard := none }) (v := .bool true) rfl (by kernel_rfl) (by kernel_rfl) (by kernel_rfl) (fun _ _ _ h => h) (Or.inl ⟨by rfl, ?_⟩) hS15 ?_
  · intro w7 hSw
    try dsimp only at hSw
    go_simp
  try simp only [Act.put, List.setIfInBounds_toArray, List.set_cons_zero, List.set_cons_succ]
  refine wpAnyH_take (i := 38) (oi := { dst := some 115, op := .move (.tmp 114), type := _, pos := _, after := _, guard := none }) (v := .bool true) rfl (by kernel_rfl) (by kernel_rfl) (by kernel_rfl) (fun _ _ _ h => h) (Or.inl ⟨by rfl, ?_⟩) hS15 ?_
  · intro w7 hSw
    try dsimp only at hSw
    go_simp
  try simp only [Act.put, List.setIfInBounds_toArray, List.set_cons_zero, List.set_cons_succ]
  refine wpAnyH_take (i := 39) (oi := { dst := some 116, op := .move (.tmp 17), type := _, pos := _, after := _, guard := some (38, true) }) (v := .int .i64 0) rfl (by kernel_rfl) (by kernel_rfl) (by kernel_rfl) (fun _ _ _ h => h) (Or.inl ⟨by rfl, ?_⟩) hS15 ?_
  · intro w7 hSw
    try dsimp only at hSw
    go_simp
  try simp only [Act.put, List.setIfInBounds_toArray, List.set_cons_zero, List.set_cons_succ]
  refine wpAnyH_take (i := 40) (oi := { dst := some 117, op := .binOp .eql 38 (.tmp 116) (.const (.int .i64 0)) 38, type := _, pos := _, after := _, guard := some (38, true) }) (v := .bool true) rfl (by kernel_rfl) (by kernel_rfl) (by kernel_rfl) (fun _ _ _ h => h) (Or.inl ⟨by rfl, ?_⟩) hS15 ?_
  · intro w7 hSw
    try dsimp only at hSw
    go_simp
  try simp only [Act.put, List.setIfInBounds_toArray, List.set_cons_zero, List.set_cons_succ]
  refine wpAnyH_take (i := 41) (oi := { dst := some 118, op := .pick (.tmp 115) (.tmp 117) (.const (.bool false)), type := _, pos := _, after := _, guard := none }) (v := .bool true) rfl (by kernel_rfl) (by kernel_rfl) (by kernel_rfl) (fun _ _ _ h => h) (Or.inl ⟨by rfl, ?_⟩) hS15 ?_
  · intro w7 hSw
    try dsimp only at hSw
    go_simp
  try simp only [Act.put, List.setIfInBounds_toArray, List.set_cons_zero, List.set_cons_succ]
  refine wpAnyH_take (i := 42) (oi := { dst := some 119, op := .move (.tmp 118), type := _, pos := _, after := _, guard := none }) (v := .bool true) rfl (by kernel_rfl) (by kernel_rfl) (by kernel_rfl) (fun _ _ _ h => h) (Or.inl ⟨by rfl, ?_⟩) hS15 ?_
  · intro w7 hSw
    try dsimp only at hSw
    go_simp
  try simp only [Act.put, List.setIfInBounds_toArray, List.set_cons_zero, List.set_cons_succ]
  refine wpAnyH_take (i := 43) (oi := { dst := some 120, op := .load 29 (.tmp 1), type := _, pos := _, after := _, guard := some (42, true) }) (v := pv bd bl) rfl (by kernel_rfl) (by kernel_rfl) (by kernel_rfl) (fun _ _ _ h => h) (Or.inl ⟨by rfl, ?_⟩) hS15 ?_
  · intro w7 hSw
    try dsimp only at hSw
    obtain ⟨p0, p1, p2⟩ := X0_cells hSw.right
    go_simp
  try simp only [Act.put, List.setIfInBounds_toArray, List.set_cons_zero, List.set_cons_succ]
  refine wpAnyH_take (i := 44) (oi := { dst := some 121, op := .move (.tmp 6), type := _, pos := _, after := _, guard := some (42, true) }) (v := .slice Ao 2 co) rfl (by kernel_rfl) (by kernel_rfl) (by kernel_rfl) (fun _ _ _ h => h) (Or.inl ⟨by rfl, ?_⟩) hS15 ?_
  · intro w7 hSw
    try dsimp only at hSw
    go_simp
  try simp only [Act.put, List.setIfInBounds_toArray, List.set_cons_zero, List.set_cons_succ]
  refine wpAnyH_all (rs := [45]) (by kernel_rfl) (by simp) (fun y hy => ?_)
  obtain rfl := List.mem_singleton.1 hy
  clear hy
  refine wpOp_step (o := { dst := some 122, op := .buildSlice 22 1 #[(0, .const (.int .i64 99))], type := _, pos := _, after := _, guard := some (42, true) }) (by simp; exact ⟨rfl, rfl, rfl⟩) (fun K hK => ?_)
  go_simp
  refine hK _ _ ⟨in_alloc (star_good (PL_good _ _ _ _ _ _ _) X0_good) hS15 _, ?_⟩
  clear hK K
  go_simp
  try simp only [Act.put, List.setIfInBounds_toArray, List.set_cons_zero, List.set_cons_succ]
  refine wpAnyH_all (rs := [46]) (by kernel_rfl) (by simp) (fun y hy => ?_)
  obtain rfl := List.mem_singleton.1 hy
  clear hy
  refine wpOp_step (o := { dst := some 123, op := .call { callee := .builtin .append, args := #[.tmp 121, .tmp 122], argTypes := #[22, 22 ] }, type := _, pos := _, after := _, guard := some (42, true) }) (by simp; exact ⟨rfl, rfl, rfl⟩) (fun K hK => ?_)
  rw [if_pos (by rfl)]
  have HO := V15.out.right.right.left.get fun S h => h.1
  refine (show Oper.wp _ _ _ (w15.alloc (.cells #[.int .i64 99] 3)) _ _ from op_append1 (W := w15) 0 (.tmp 121) (.tmp 122) 22 3 (.int .i64 0) 1 8 rfl Tryz.underlying22 info_int rfl (by omega) (by omega) (.slice Ao 2 co) 2 _ [.int .i64 99] rfl rfl (by simp) rfl (by simp [Value.oneCell']) HO (by omega) (by omega) ?_)
  intro v1 w16 h4 t4 hor
  obtain ⟨⟨A3, c3, rfl⟩, S16, V16⟩ := v_grow V15.out h4 t4 hor
  have V16 := Lib.hid V16
  clear h4 t4 hor HO V15
  refine hK _ _ ⟨S16, ?_⟩
  clear hK K
  go_simp
  try simp only [Act.put, List.setIfInBounds_toArray, List.set_cons_zero, List.set_cons_succ]
  refine wpAnyH_all (rs := [47]) (by kernel_rfl) (by simp) (fun y hy => ?_)
  obtain rfl := List.mem_singleton.1 hy
  clear hy
  refine wpOp_step (o := { dst := some 124, op := .call { callee := .value (.func 32), args := #[.tmp 120, .tmp 123], argTypes := #[29, 22 ] }, type := _, pos := _, after := _, guard := some (42, true) }) (by simp; exact ⟨rfl, rfl, rfl⟩) (fun K hK => ?_)
  go_simp
  go_at_call 32
  (with_reducible refine (v_widest CC.out V16.out).mono ?_)
  rintro e w17 ⟨rfl, S17⟩
  clear V16
  refine hK _ _ ⟨S17, ?_⟩
  clear hK K
  go_simp
  try simp only [Act.put, List.setIfInBounds_toArray, List.set_cons_zero, List.set_cons_succ]
  refine wpAnyH_take (i := 48) (oi := { dst := some 125, op := .binOp .eql 3 (.tmp 124) (.const (.int .i64 1)) 3, type := _, pos := _, after := _, guard := some (42, true) }) (v := .bool true) rfl (by kernel_rfl) (by kernel_rfl) (by kernel_rfl) (fun _ _ _ h => h) (Or.inl ⟨by rfl, ?_⟩) S17 ?_
  · intro w7 hSw
    try dsimp only at hSw
    go_simp
  try simp only [Act.put, List.setIfInBounds_toArray, List.set_cons_zero, List.set_cons_succ]
  refine wpAnyH_take (i := 49) (oi := { dst := some 126, op := .pick (.tmp 119) (.tmp 125) (.const (.bool false)), type := _, pos := _, after := _, guard := none }) (v := .bool true) rfl (by kernel_rfl) (by kernel_rfl) (by kernel_rfl) (fun _ _ _ h => h) (Or.inl ⟨by rfl, ?_⟩) S17 ?_
  · intro w7 hSw
    try dsimp only at hSw
    go_simp
  try simp only [Act.put, List.setIfInBounds_toArray, List.set_cons_zero, List.set_cons_succ]
  refine wpAnyH_take (i := 50) (oi := { dst := some 127, op := .move (.tmp 126), type := _, pos := _, after := _, guard := none }) (v := .bool true) rfl (by kernel_rfl) (by kernel_rfl) (by kernel_rfl) (fun _ _ _ h => h) (Or.inl ⟨by rfl, ?_⟩) S17 ?_
  · intro w7 hSw
    try dsimp only at hSw
    go_simp
  try simp only [Act.put, List.setIfInBounds_toArray, List.set_cons_zero, List.set_cons_succ]
  refine wpAnyH_take (i := 51) (oi := { dst := some 128, op := .load 29 (.tmp 1), type := _, pos := _, after := _, guard := some (50, true) }) (v := pv bd bl) rfl (by kernel_rfl) (by kernel_rfl) (by kernel_rfl) (fun _ _ _ h => h) (Or.inl ⟨by rfl, ?_⟩) S17 ?_
  · intro w7 hSw
    try dsimp only at hSw
    obtain ⟨p0, p1, p2⟩ := X0_cells hSw.right
    go_simp
  try simp only [Act.put, List.setIfInBounds_toArray, List.set_cons_zero, List.set_cons_succ]
  refine wpAnyH_all (rs := [52]) (by kernel_rfl) (by simp) (fun y hy => ?_)
  obtain rfl := List.mem_singleton.1 hy
  clear hy
  refine wpOp_step (o := { dst := some 129, op := .call { callee := .value (.func 15), args := #[.tmp 128, .const (.int .i64 4)], argTypes := #[29, 3 ] }, type := _, pos := _, after := _, guard := some (50, true) }) (by simp; exact ⟨rfl, rfl, rfl⟩) (fun K hK => ?_)
  go_simp
  go_at_call 15
  (with_reducible refine (v_clean CC.out S17).mono ?_)
  rintro e w18 ⟨rfl, S18⟩
  refine hK _ _ ⟨S18, ?_⟩
  clear hK K
  go_simp
  try simp only [Act.put, List.setIfInBounds_toArray, List.set_cons_zero, List.set_cons_succ]
  refine wpAnyH_take (i := 53) (oi := { dst := some 130, op := .pick (.tmp 127) (.tmp 129) (.const (.bool false)), type := _, pos := _, after := _, guard := none }) (v := .bool true) rfl (by kernel_rfl) (by kernel_rfl) (by kernel_rfl) (fun _ _ _ h => h) (Or.inl ⟨by rfl, ?_⟩) S18 ?_
  · intro w7 hSw
    try dsimp only at hSw
    go_simp
  try simp only [Act.put, List.setIfInBounds_toArray, List.set_cons_zero, List.set_cons_succ]
  refine wpAnyH_take (i := 54) (oi := { dst := some 0, op := .assign (.tmp 130), type := _, pos := _, after := _, guard := none }) (v := .bool true) rfl (by kernel_rfl) (by kernel_rfl) (by kernel_rfl) (fun _ _ _ h => h) (Or.inl ⟨by rfl, ?_⟩) S18 ?_
  · intro w7 hSw
    try dsimp only at hSw
    go_simp
  try simp only [Act.put, List.setIfInBounds_toArray, List.set_cons_zero, List.set_cons_succ]
  refine wpAnyH_done (by kernel_rfl) ?_ _
  have B18 := Lib.hid S18.bel
  clear S18 S17 S16 hS15 nS CC
  go_wp2
  go_ret
  exact ⟨by trivial, B18.out⟩
end Go.Proofs.YtkbapoeilcapfaaGreat
