/- the disk's laws: do. -/
import Derived.Test.YtagknfjgokiidaaDO
import Derived.Test.YtagknfjgokiidaaDY
import Derived.Test.YtagknfjgokiidaaXI
import Derived.Deep.RegionHeld3
import Derived.Laws.BytesArg
namespace Go.Proofs.Ytagknfjgokiidaa
open Go.RowKit Go.Maps
set_option linter.unusedVariables false
set_option linter.unusedSimpArgs false
set_option maxRecDepth 6000

def str8 (bs : List Int) : ByteArray := ⟨(bs.map fun i => UInt8.ofNat i.toNat).toArray⟩
theorem conv8 {w : World} {base : Nat} {A : Option Addr} {n c : Nat} {bs : List Int} (ho : w.ownsRow base 5 1 (.slice A n c) n (b8 bs)) : (convert 31 9 (.slice A n c)).run Try.prog w = .ok (.string (str8 bs)) w := by
  have h := RdBy.of_own ho
  rw [run_convert_bytes_string w 31 9 5 _ n c Try.underlying31 Try.underlying5 Try.underlying9 ]
  rcases Nat.eq_zero_or_pos n with h0 | h0
  · subst h0
    obtain rfl : bs = [] := List.eq_nil_of_length_eq_zero h.1
    cases A with
    | none => simp [Conv.bytesToString]; rfl
    | some ad =>
      rw [run_bytesToString w ad 0 c [] (by exact run_loadCells_list (P := Try.prog) w ad [] (fun j v hj => by simp at hj))]
      rfl
  · obtain ⟨ad, rfl, _, hc⟩ := h.2 h0
    have hl : (loadCells ad n).run Try.prog w = .ok (bs.map (Value.int .u8)).toArray w := by
      have := run_loadCells_list (P := Try.prog) w ad (bs.map (Value.int .u8)) (fun j v hj => hc j v hj)
      have hn : (bs.map (Value.int .u8)).length = n := by rw [List.length_map]; exact h.1
      rwa [hn] at this
    rw [run_bytesToString w ad n c bs hl, foldl_push_bytes]
    simp [str8, ByteArray.empty, ByteArray.emptyWithCapacity]
    rfl
def doD (R : Int) (F : List Int) (s : Ds) (x : Op4) : Ds :=
  if x.k = 1 then s.create else if x.k = 2 then s.app R F x.f x.p else if x.k = 3 then s.read F x.f x.i else if x.k = 4 then s.del x.f else s
theorem DOk.doD {R : Int} {F : List Int} {s : Ds} (h : DOk R s) {x : Op4} (hb : ∀ b ∈ x.p, 0 ≤ b ∧ b ≤ 255) : DOk R (doD R F s x) := by
  unfold Go.Proofs.Ytagknfjgokiidaa.doD
  split
  · exact h.create
  · split
    · exact h.app _ hb
    · split
      · exact h.read _ _
      · split
        · exact h.del _
        · exact h
theorem doD_made (R : Int) (F : List Int) (s : Ds) (x : Op4) : (doD R F s x).made ≤ s.made + 1 ∧ (doD R F s x).deeds ≤ s.deeds + 1 := by
  unfold doD
  split
  · have := create_deeds s; omega
  · split
    · have := app_deeds R F s x.f x.p; omega
    · split
      · have := read_deeds F s x.f x.i; omega
      · split
        · have := del_deeds s x.f; omega
        · omega
theorem in_drew {w0 w : World} {R : Res} (h : In w0 w R) (g : Good R) : In w0 w.drew R := h.below g ⟨rfl, rfl, rfl, Nat.le_refl _, fun _ _ => rfl⟩
abbrev opObj (x : Op4) : Obj := .cells #[.int .i64 x.k, .int .i64 x.f, .int .i64 x.i, .slice x.A x.n x.c] 33
theorem box_cells {w0 w : World} {A B Fr : Res} {b : Nat} {x : Op4} (h : In w0 w (star A (star B (star (blkR b (opObj x)) Fr)))) :
    w.cell? ⟨b, 0, none⟩ = some (.int .i64 x.k) ∧ w.cell? ⟨b, 1, none⟩ = some (.int .i64 x.f) ∧ w.cell? ⟨b, 2, none⟩ = some (.int .i64 x.i) ∧ w.cell? ⟨b, 3, none⟩ = some (.slice x.A x.n x.c) :=
  h.right.right.left.get fun S h => ⟨cell_of_blk h.1 0, cell_of_blk h.1 1, cell_of_blk h.1 2, cell_of_blk h.1 3⟩
set_option maxHeartbeats 2000000 in
theorem do_walk {w0 w : World} {Fr : Res} {bd bx : Nat} {R : Int} {F : List Int} {s : Ds} (g : Good Fr) (H : In w0 w (star (DR bd R F s) (star (XR bx R F s) Fr))) (K : DOk R s) (hm : s.made ≤ 1000000) (hd : s.deeds ≤ 1000000) (hF : F.length ≤ 100) {x : Op4} (hx : x.wf w0) :
    Calls Try.prog 13 #[dp bd, dp bx, x.val] w fun e w' => e = .returned (.bool true) ∧ In w0 w' (star (DR bd R F (doD R F s x)) (star (XR bx R F (doD R F s x)) Fr)) := by
  have g2 : Good (star (blkR w.heap.size (opObj x)) Fr) := star_good (blkR_good _ _) g
  have gX : ∀ s', Good (star (XR bx R F s') (star (blkR w.heap.size (opObj x)) Fr)) := fun s' => star_good (XR_good _ _ _ _) g2
  have gD : ∀ s', Good (star (DR bd R F s') (star (blkR w.heap.size (opObj x)) Fr)) := fun s' => star_good (DR_good _ _ _ _) g2
  have V0 : In w0 (w.alloc (opObj x)) (star (DR bd R F s) (star (XR bx R F s) (star (blkR w.heap.size (opObj x)) Fr))) := by
    have h := H.blk (star_good (DR_good _ _ _ _) (star_good (XR_good _ _ _ _) g)) (opObj x)
    refine h.assoc.imp fun S h => star_mono h (fun _ => id) fun S h => star_mono (star_assoc h) (fun _ => id) (fun _ => star_comm)
  have drop : ∀ {w' : World} {s1 s2 : Ds}, In w0 w' (star (DR bd R F s1) (star (XR bx R F s2) (star (blkR w.heap.size (opObj x)) Fr))) → In w0 w' (star (DR bd R F s1) (star (XR bx R F s2) Fr)) := fun h => (h.assoc'.drop).assoc
  obtain ⟨k0, k1, k2, k3⟩ := box_cells V0
  have HV := Lib.hid V0
  have HDr := Lib.hid (fun (w' : World) (s1 s2 : Ds) h => drop (w' := w') (s1 := s1) (s2 := s2) h)
  have hxk := hx.k
  rcases (show x.k = 1 ∨ x.k = 2 ∨ x.k = 3 ∨ x.k = 4 ∨ (x.k ≠ 1 ∧ x.k ≠ 2 ∧ x.k ≠ 3 ∧ x.k ≠ 4) by omega) with q | q | q | q | ⟨q1, q2, q3, q4⟩
  · have e : doD R F s x = s.create := by unfold doD; rw [if_pos q]
    rw [e]
    have C1 := v_create (gX s) V0 K (by omega)
    have C2 := fun W (h : In w0 W (star (DR bd R F s.create) (star (XR bx R F s) (star (blkR w.heap.size (opObj x)) Fr)))) => (y_create (gD s.create) h.swap K (by omega)).mono fun e w' h2 => show e = .returned (.tuple #[.int .i64 (if s.createE = 0 then s.made + 1 else 0), .int .i64 s.createE]) ∧ In w0 w' (star (DR bd R F s.create) (star (XR bx R F s.create) (star (blkR w.heap.size (opObj x)) Fr))) from ⟨h2.1, h2.2.swap⟩
    obtain ⟨ra, hra⟩ : ∃ ra, ra = (if s.createE = 0 then s.made + 1 else 0) := ⟨_, rfl⟩
    obtain ⟨rb, hrb⟩ : ∃ rb, rb = s.createE := ⟨_, rfl⟩
    rw [← hrb] at hra
    rw [← hrb, ← hra] at C1 C2
    have C1 := Lib.hid C1
    have C2 := Lib.hid C2
    obtain ⟨xk, xf, xi, xA, xn, xc, xp⟩ := x
    dsimp only at q
    subst q
    unfold Op4.val
    dsimp only at k0 k1 k2 k3 ⊢
    clear hra hrb
    clear V0 drop gX gD g2 H e hx hxk K hm hd hF
    go_enter Try.func13, Try.ntmps13
    go_wp2_with (first
      | (go_at_call 15; (with_reducible refine C1.out.mono ?_); rintro e w1 ⟨rfl, V⟩; have V1 := Lib.hid V; clear V C1)
      | (go_at_call 37; (with_reducible refine (C2.out _ V1.out).mono ?_); rintro e w2 ⟨rfl, V⟩; have V2 := Lib.hid V; clear V C2))
    go_ret
    exact ⟨by trivial, HDr.out _ _ _ V2.out⟩
  · have e : doD R F s x = s.app R F x.f x.p := by unfold doD; rw [if_neg (by omega), if_pos q]
    rw [e]
    have C1 := fun W (h : In w0 W (star (DR bd R F s) (star (XR bx R F s) (star (blkR w.heap.size (opObj x)) Fr)))) => (v_app0 (gX s) h K (by omega) hx.f hx.rd (n := x.f) (c := x.c)).mono fun (e : Ending) (w' : World) h2 => show e = .returned (.int .i64 (s.appE R F x.f x.p)) ∧ (w'.cell? ⟨w.heap.size, 1, none⟩ = some (.int .i64 x.f) ∧ w'.cell? ⟨w.heap.size, 3, none⟩ = some (.slice x.A x.n x.c)) ∧ In w0 w' (star (DR bd R F (s.app R F x.f x.p)) (star (XR bx R F s) (star (blkR w.heap.size (opObj x)) Fr))) from ⟨h2.1, ⟨(box_cells h2.2).2.1, (box_cells h2.2).2.2.2⟩, h2.2⟩
    have C2 := fun W (h : In w0 W (star (DR bd R F (s.app R F x.f x.p)) (star (XR bx R F s) (star (blkR w.heap.size (opObj x)) Fr)))) => (y_app0 (gD _) h.swap K (by omega) (by omega) hx.rd (n := x.f) (c := x.c)).mono fun (e : Ending) (w' : World) h2 => show e = .returned (.int .i64 (s.appE R F x.f x.p)) ∧ (w'.cell? ⟨w.heap.size, 1, none⟩ = some (.int .i64 x.f) ∧ w'.cell? ⟨w.heap.size, 3, none⟩ = some (.slice x.A x.n x.c)) ∧ In w0 w' (star (DR bd R F (s.app R F x.f x.p)) (star (XR bx R F (s.app R F x.f x.p)) (star (blkR w.heap.size (opObj x)) Fr))) from ⟨h2.1, ⟨(box_cells h2.2.swap).2.1, (box_cells h2.2.swap).2.2.2⟩, h2.2.swap⟩
    have VD := Lib.hid (in_drew V0 (star_good (DR_good _ _ _ _) (gX s)))
    obtain ⟨ra, hra⟩ : ∃ ra, ra = s.appE R F x.f x.p := ⟨_, rfl⟩
    rw [← hra] at C1 C2
    have C1 := Lib.hid C1
    have C2 := Lib.hid C2
    obtain ⟨xk, xf, xi, xA, xn, xc, xp⟩ := x
    dsimp only at q
    subst q
    unfold Op4.val
    dsimp only at k0 k1 k2 k3 ⊢
    clear hra
    clear V0 drop gX gD g2 H e hx hxk K hm hd hF
    go_enter Try.func13, Try.ntmps13
    go_wp2
    go_region_held3 (fun w' => w'.cell? ⟨w.heap.size, 1, none⟩ = some (.int .i64 xf) ∧ w'.cell? ⟨w.heap.size, 3, none⟩ = some (.slice xA xn xc)) (first | (refine ⟨?_, ?_⟩ <;> assumption) | go_keep)
      (first
        | (go_at_call 16; (with_reducible refine (C1.out _ VD.out).mono ?_); rintro e w1 ⟨rfl, ⟨k1, k3⟩, V⟩; have V1 := Lib.hid V; clear V)
        | (go_at_call 38; (with_reducible refine (C2.out _ V1.out).mono ?_); rintro e w2 ⟨rfl, ⟨k1, k3⟩, V⟩; have V2 := Lib.hid V; clear V))
    all_goals
      go_wp2
      go_ret
      exact ⟨by trivial, HDr.out _ _ _ V2.out⟩
  · have e : doD R F s x = s.read F x.f x.i := by unfold doD; rw [if_neg (by omega), if_neg (by omega), if_pos q]
    rw [e]
    have C1 := v_read (gX s) V0 K (by omega) hx.f (n := x.f) (i := x.i)
    have C1 := C1.mono fun (e : Ending) (w' : World) h => show ∃ v : Option Addr × Nat × Nat, e = .returned (.tuple #[.slice v.1 v.2.1 v.2.2, .int .i64 (s.readE F x.f x.i)]) ∧ (w'.cell? ⟨w.heap.size, 1, none⟩ = some (.int .i64 x.f) ∧ w'.cell? ⟨w.heap.size, 2, none⟩ = some (.int .i64 x.i)) ∧ In w0 w' (star (DR bd R F (s.read F x.f x.i)) (star (rowR 5 1 (.slice v.1 v.2.1 v.2.2) v.2.1 (b8 (s.readQ F x.f x.i))) (star (XR bx R F s) (star (blkR w.heap.size (opObj x)) Fr)))) from by
      obtain ⟨v, h1, h2⟩ := h
      have hb := box_cells h2.drop
      exact ⟨v, h1, ⟨hb.2.1, hb.2.2.1⟩, h2⟩
    have C2 := fun W (v1 : Option Addr × Nat × Nat) (h : In w0 W (star (DR bd R F (s.read F x.f x.i)) (star (rowR 5 1 (.slice v1.1 v1.2.1 v1.2.2) v1.2.1 (b8 (s.readQ F x.f x.i))) (star (XR bx R F s) (star (blkR w.heap.size (opObj x)) Fr))))) =>
      (y_read (star_good (DR_good _ _ _ _) (star_good (rowR_good _ _ _ _ _) g2)) ((h.imp fun S h => star_mono h (fun _ => id) (fun _ => star_swap)).swap) K (by omega) (by omega) (n := x.f) (i := x.i)).mono fun (e : Ending) (w' : World) h =>
        show ∃ v2 : Option Addr × Nat × Nat, e = .returned (.tuple #[.slice v2.1 v2.2.1 v2.2.2, .int .i64 (s.readE F x.f x.i)]) ∧ ((convert 31 9 (.slice v1.1 v1.2.1 v1.2.2)).run Try.prog w' = .ok (.string (str8 (s.readQ F x.f x.i))) w' ∧ (convert 31 9 (.slice v2.1 v2.2.1 v2.2.2)).run Try.prog w' = .ok (.string (str8 (s.readQ F x.f x.i))) w') ∧ In w0 w' (star (DR bd R F (s.read F x.f x.i)) (star (XR bx R F (s.read F x.f x.i)) (star (blkR w.heap.size (opObj x)) Fr))) from by
          obtain ⟨v2, h1, h2⟩ := h
          exact ⟨v2, h1, ⟨h2.right.right.right.left.get fun S h => conv8 h.1, h2.right.left.get fun S h => conv8 h.1⟩, (h2.drop.swap.assoc'.drop).assoc⟩
    obtain ⟨ra, hra⟩ : ∃ ra, ra = s.readE F x.f x.i := ⟨_, rfl⟩
    obtain ⟨rs, hrs⟩ : ∃ rs, rs = str8 (s.readQ F x.f x.i) := ⟨_, rfl⟩
    rw [← hra] at C1
    simp only [← hra, ← hrs] at C2
    have C1 := Lib.hid C1
    have C2 := Lib.hid C2
    obtain ⟨xk, xf, xi, xA, xn, xc, xp⟩ := x
    dsimp only at q
    subst q
    unfold Op4.val
    dsimp only at k0 k1 k2 k3 ⊢
    clear hra hrs
    clear V0 drop gX gD g2 H e hx hxk K hm hd hF
    go_enter Try.func13, Try.ntmps13
    go_wp2_with (first
      | (go_at_call 20; (with_reducible refine C1.out.mono ?_); rintro e w1 ⟨⟨vA, vn, vc⟩, rfl, ⟨k1, k2⟩, V⟩; have V1 := Lib.hid V; clear V C1)
      | (go_at_call 39; (with_reducible refine (C2.out _ (vA, vn, vc) V1.out).mono ?_); rintro e w2 ⟨⟨uA, un, uc⟩, rfl, ⟨z1, z2⟩, V⟩; have V2 := Lib.hid V; clear V C2))
    go_ret
    exact ⟨by trivial, HDr.out _ _ _ V2.out⟩
  · have e : doD R F s x = s.del x.f := by unfold doD; rw [if_neg (by omega), if_neg (by omega), if_neg (by omega), if_pos q]
    rw [e]
    have C1 := fun W (h : In w0 W (star (DR bd R F s) (star (XR bx R F s) (star (blkR w.heap.size (opObj x)) Fr)))) => (v_del (gX s) h K hx.f (n := x.f)).mono fun (e : Ending) (w' : World) h2 => show e = .returned (.int .i64 (s.delE x.f)) ∧ (w'.cell? ⟨w.heap.size, 1, none⟩ = some (.int .i64 x.f)) ∧ In w0 w' (star (DR bd R F (s.del x.f)) (star (XR bx R F s) (star (blkR w.heap.size (opObj x)) Fr))) from ⟨h2.1, (box_cells h2.2).2.1, h2.2⟩
    have C2 := fun W (h : In w0 W (star (DR bd R F (s.del x.f)) (star (XR bx R F s) (star (blkR w.heap.size (opObj x)) Fr)))) => (y_del (gD _) h.swap K (n := x.f)).mono fun (e : Ending) (w' : World) h2 => show e = .returned (.int .i64 (s.delE x.f)) ∧ (w'.cell? ⟨w.heap.size, 1, none⟩ = some (.int .i64 x.f)) ∧ In w0 w' (star (DR bd R F (s.del x.f)) (star (XR bx R F (s.del x.f)) (star (blkR w.heap.size (opObj x)) Fr))) from ⟨h2.1, (box_cells h2.2.swap).2.1, h2.2.swap⟩
    have VD := Lib.hid (in_drew V0 (star_good (DR_good _ _ _ _) (gX s)))
    obtain ⟨ra, hra⟩ : ∃ ra, ra = s.delE x.f := ⟨_, rfl⟩
    rw [← hra] at C1 C2
    have C1 := Lib.hid C1
    have C2 := Lib.hid C2
    obtain ⟨xk, xf, xi, xA, xn, xc, xp⟩ := x
    dsimp only at q
    subst q
    unfold Op4.val
    dsimp only at k0 k1 k2 k3 ⊢
    clear hra
    clear V0 drop gX gD g2 H e hx hxk K hm hd hF
    go_enter Try.func13, Try.ntmps13
    go_wp2
    go_region_held3 (fun w' => w'.cell? ⟨w.heap.size, 1, none⟩ = some (.int .i64 xf)) (first | assumption | go_keep)
      (first
        | (go_at_call 18; (with_reducible refine (C1.out _ VD.out).mono ?_); rintro e w1 ⟨rfl, k1, V⟩; have V1 := Lib.hid V; clear V)
        | (go_at_call 40; (with_reducible refine (C2.out _ V1.out).mono ?_); rintro e w2 ⟨rfl, k1, V⟩; have V2 := Lib.hid V; clear V))
    all_goals
      go_wp2
      go_ret
      exact ⟨by trivial, HDr.out _ _ _ V2.out⟩
  · have e : doD R F s x = s := by unfold doD; rw [if_neg q1, if_neg q2, if_neg q3, if_neg q4]
    rw [e]
    obtain ⟨xk, xf, xi, xA, xn, xc, xp⟩ := x
    unfold Op4.val
    dsimp only at k0 k1 k2 k3 q1 q2 q3 q4 ⊢
    have p1 : (xk == 1) = false := by simpa using q1
    have p2 : (xk == 2) = false := by simpa using q2
    have p3 : (xk == 3) = false := by simpa using q3
    have p4 : (xk == 4) = false := by simpa using q4
    clear V0 drop gX gD g2 H e hx hxk K hm hd hF q1 q2 q3 q4
    go_enter Try.func13, Try.ntmps13
    go_wp2
    go_ret
    exact ⟨by trivial, HDr.out _ _ _ HV.out⟩
end Go.Proofs.Ytagknfjgokiidaa
