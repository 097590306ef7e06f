/- Spill: places, writers, readers, and what must come of every program. -/
import Derived.Test.YtkbapoeilcapfaaGreatMD
import Derived.Test.YtkbapoeilcapfaaGreatME
import Derived.Test.YtkbapoeilcapfaaGreatMF
import Derived.Test.YtkbapoeilcapfaaGreatMA
import Derived.Deep.RegionHeld3
import Derived.Defers
import Derived.Deep.QuietTactic
import Derived.BigQuiet
import Derived.LoopN
import Derived.Test.YtkbapoeilcapfaaGreatMB
import Derived.Test.YtkbapoeilcapfaaGreatMC
import Derived.ChangeArms
/- spill as plain data: what writers and readers do. -/
namespace Go.Proofs.YtkbapoeilcapfaaGreat
set_option linter.unusedVariables false
set_option linter.unusedSimpArgs false

/-- A writer: its file, how many rows were put, what is wrong, whether it has ended, the rows of its page. -/
structure Ws where
  file : Int
  n : Int
  wrong : Int
  ended : Bool
  rows : List (List V)
structure WOk (x : Ws) : Prop where
  ok : ∀ r ∈ x.rows, rowOk r = true
  fit : usedN x.rows ≤ 256
  num : 0 ≤ x.n ∧ x.n ≤ 1000000
  file : (Lit.int .i64 x.file).wf = true
/-- The pages of a disk are pages of rows. -/
def DPg (d : Ds) : Prop := ∀ x ∈ d.fs, ∀ p ∈ x.2, ∃ rows : List (List V), rows ≠ [] ∧ p = mkP rows ∧ usedN rows ≤ 256 ∧ ∀ r ∈ rows, rowOk r = true
structure SOk (R : Int) (d : Ds) : Prop where
  dok : DOk R d
  pg : DPg d
def pgRows (p : Pg) : List (List V) := ((scanS p).map (·.1)).getD []
theorem scan_mkP {rows : List (List V)} (hok : ∀ r ∈ rows, rowOk r = true) (hu : usedN rows ≤ 256) : scanS (mkP rows) = some (rows, 1 + (flat rows).length) :=
  scanS_compl (isB_mkP rows hok hu) (mkP_PG rows hu) hok
theorem pgRows_mkP {rows : List (List V)} (hok : ∀ r ∈ rows, rowOk r = true) (hu : usedN rows ≤ 256) : pgRows (mkP rows) = rows := by
  unfold pgRows
  rw [scan_mkP hok hu]
  rfl
theorem mkP_len {rows : List (List V)} (hu : usedN rows ≤ 256) : (mkP rows).length = 256 := (mkP_PG rows hu).len
def giveH (h : Int) : Int := if 1 ≤ h then h - 1 else h
section
variable (R : Int) (F : List Int) (G : Int) (d : Ds) (h : Int) (x : Ws) (r : List V)
def Ws.flushE : Int := if x.wrong = 0 ∧ x.rows ≠ [] then d.appE R F x.file (mkP x.rows) else x.wrong
def Ws.flushD : Ds := if x.wrong = 0 ∧ x.rows ≠ [] then d.app R F x.file (mkP x.rows) else d
def Ws.flushX : Ws := ⟨x.file, x.n, x.flushE R F d, x.ended, []⟩
/-- What keeps a row from being put. -/
def Ws.stop : Int := if x.ended = true then 6 else if x.wrong ≠ 0 then x.wrong else mayE r
def Ws.putE : Int := if x.stop r ≠ 0 then x.stop r else if 256 < usedN (x.rows ++ [r]) then x.flushE R F d else 0
def Ws.putD : Ds := if x.stop r ≠ 0 then d else if 256 < usedN (x.rows ++ [r]) then x.flushD R F d else d
def Ws.putX : Ws := if x.stop r ≠ 0 then x else if 256 < usedN (x.rows ++ [r]) then (if x.flushE R F d ≠ 0 then x.flushX R F d else ⟨x.file, x.n + 1, 0, x.ended, [r]⟩) else ⟨x.file, x.n + 1, x.wrong, x.ended, x.rows ++ [r]⟩
def Ws.doneE : Int := if x.ended = true then 6 else x.flushE R F d
def Ws.doneN : Int := if x.doneE R F d = 0 then x.file else 0
def Ws.doneD : Ds := if x.ended = true then d else if x.flushE R F d = 0 then x.flushD R F d else (x.flushD R F d).del x.file
def Ws.doneX : Ws := if x.ended = true then x else ⟨x.file, x.n, x.flushE R F d, true, []⟩
def Ws.endH : Int := if x.ended = true then h else giveH h
def Ws.dropD : Ds := if x.ended = true then d else d.del x.file
def Ws.dropX : Ws := if x.ended = true then x else ⟨x.file, x.n, 6, true, x.rows⟩
def wrE : Int := if G ≤ h then 60 else d.createE
def wrD : Ds := if G ≤ h then d else d.create
def wrX : Ws := ⟨d.made + 1, 0, 0, false, []⟩
def wrH : Int := if wrE G d h = 0 then h + 1 else h
end
/-- A reader: its file, which page is next, the rows that are left of the one ahead, whether it was closed. -/
structure Rs where
  file : Int
  page : Nat
  rows : List (List V)
  closed : Bool
structure Nx where
  row : Option (List V)
  e : Int
  d : Ds
  x : Rs
section
variable (R : Int) (F : List Int) (G : Int) (d : Ds) (h : Int) (x : Rs)
def rrE (n : Int) : Int := if (d.find n).isNone then 4 else if G ≤ h then 60 else 0
def rrH (n : Int) : Int := if rrE G d h n = 0 then h + 1 else h
/-- The next page: is there one, and if not why; the disk; the reader. -/
def Rs.loadE : Int := match d.find x.file with
  | none => 4
  | some l => if (l.length : Int) ≤ x.page then 0 else d.readE F x.file x.page
def Rs.loadB : Bool := match d.find x.file with
  | none => false
  | some l => decide ((x.page : Int) < l.length) && decide (d.readE F x.file x.page = 0)
def Rs.loadD : Ds := match d.find x.file with
  | none => d
  | some l => if (l.length : Int) ≤ x.page then d else d.read F x.file x.page
def Rs.loadX : Rs := if x.loadB F d = true then ⟨x.file, x.page + 1, pgRows (d.readP x.file x.page), x.closed⟩ else x
def Rs.next : Nx :=
  if x.closed = true then ⟨none, 0, d, x⟩ else match x.rows with
  | r :: t => ⟨some r, 0, d, ⟨x.file, x.page, t, x.closed⟩⟩
  | [] => if x.loadB F d = true then ⟨(x.loadX F d).rows.head?, 0, x.loadD F d, ⟨x.file, x.page + 1, (x.loadX F d).rows.tail, x.closed⟩⟩ else ⟨none, x.loadE F d, x.loadD F d, x⟩
def Rs.closeX : Rs := ⟨x.file, x.page, x.rows, true⟩
def Rs.closeH : Int := if x.closed = true then h else giveH h
end
theorem giveH_le {h G : Int} (h0 : 0 ≤ h) (h1 : h ≤ G) : 0 ≤ giveH h ∧ giveH h ≤ G := by unfold giveH; split <;> omega

/-- What a call may cost. -/
def Ds.le (d : Ds) (n : Int) : Prop := d.made ≤ n ∧ d.deeds ≤ n
theorem Ds.le.mono {d : Ds} {n m : Int} (h : d.le n) (hm : n ≤ m) : d.le m := ⟨Int.le_trans h.1 hm, Int.le_trans h.2 hm⟩
section
variable {R : Int} {F : List Int} {G : Int} {d : Ds} {h n : Int} {x : Ws} {y : Rs} {r : List V}
theorem le_create (k : d.le n) : d.create.le (n + 1) := by have := create_deeds d; unfold Ds.le at *; omega
theorem le_app (k : d.le n) (m : Int) (p : Pg) : (d.app R F m p).le (n + 1) := by have := app_deeds R F d m p; unfold Ds.le at *; omega
theorem le_read (k : d.le n) (m i : Int) : (d.read F m i).le (n + 1) := by have := read_deeds F d m i; unfold Ds.le at *; omega
theorem le_del (k : d.le n) (m : Int) : (d.del m).le n := by have := del_deeds d m; unfold Ds.le at *; omega
theorem le_flush (k : d.le n) : (x.flushD R F d).le (n + 1) := by
  unfold Ws.flushD
  split
  · exact le_app k _ _
  · exact k.mono (by omega)
theorem le_put (k : d.le n) : (x.putD R F d r).le (n + 1) := by
  unfold Ws.putD
  split
  · exact k.mono (by omega)
  · split
    · exact le_flush k
    · exact k.mono (by omega)
theorem le_done (k : d.le n) : (x.doneD R F d).le (n + 1) := by
  unfold Ws.doneD
  split
  · exact k.mono (by omega)
  · split
    · exact le_flush k
    · exact le_del (le_flush k) _
theorem le_drop (k : d.le n) : (x.dropD d).le n := by
  unfold Ws.dropD
  split
  · exact k
  · exact le_del k _
theorem le_wr (k : d.le n) : (wrD G d h).le (n + 1) := by
  unfold wrD
  split
  · exact k.mono (by omega)
  · exact le_create k
theorem le_load (k : d.le n) : (y.loadD F d).le (n + 1) := by
  unfold Rs.loadD
  split
  · exact k.mono (by omega)
  · split
    · exact k.mono (by omega)
    · exact le_read k _ _
theorem le_next (k : d.le n) : (y.next F d).d.le (n + 1) := by
  unfold Rs.next
  split
  · exact k.mono (by omega)
  · split
    · exact k.mono (by omega)
    · split
      · exact le_load k
      · exact le_load k

theorem DPg.app (k : DPg d) {rows : List (List V)} (hr : rows ≠ []) (hok : ∀ r ∈ rows, rowOk r = true) (hu : usedN rows ≤ 256) (m : Int) : DPg (d.app R F m (mkP rows)) := by
  unfold Ds.app
  split
  · intro x hx p hp
    rcases addPg_mem hx with ⟨hx, _⟩ | ⟨l, hl, rfl⟩
    · exact k x hx p hp
    · rcases List.mem_append.1 hp with hp | hp
      · exact k _ hl p hp
      · exact ⟨rows, hr, List.mem_singleton.1 hp, hu, hok⟩
  · split
    · exact k
    · exact k
theorem SOk.create (k : SOk R d) : SOk R d.create := by
  refine ⟨k.dok.create, ?_⟩
  unfold Ds.create
  split
  · intro x hx p hp
    rcases List.mem_append.1 hx with hx | hx
    · exact k.pg x hx p hp
    · obtain rfl := List.mem_singleton.1 hx; simp at hp
  · exact k.pg
theorem SOk.app (k : SOk R d) {rows : List (List V)} (hr : rows ≠ []) (hok : ∀ r ∈ rows, rowOk r = true) (hu : usedN rows ≤ 256) (m : Int) : SOk R (d.app R F m (mkP rows)) :=
  ⟨k.dok.app m (isB_mkP rows hok hu), k.pg.app hr hok hu m⟩
theorem SOk.read (k : SOk R d) (m i : Int) : SOk R (d.read F m i) := by
  refine ⟨k.dok.read m i, ?_⟩
  unfold Ds.read
  split
  · exact k.pg
  · split
    · exact k.pg
    · exact k.pg
theorem SOk.del (k : SOk R d) (m : Int) : SOk R (d.del m) := by
  refine ⟨k.dok.del m, ?_⟩
  unfold Ds.del
  split
  · exact k.pg
  · exact fun x hx => k.pg x (List.mem_filter.1 hx).1
theorem SOk.new (h0 : 0 ≤ R) (h1 : R ≤ 16384) : SOk R Ds.new := ⟨DOk.new h0 h1, fun x hx => by simp [Ds.new] at hx⟩
theorem SOk.flush (k : SOk R d) (o : WOk x) : SOk R (x.flushD R F d) := by
  unfold Ws.flushD
  split
  · next e => exact k.app e.2 o.ok o.fit _
  · exact k
theorem SOk.put (k : SOk R d) (o : WOk x) : SOk R (x.putD R F d r) := by
  unfold Ws.putD
  split
  · exact k
  · split
    · exact k.flush o
    · exact k
theorem SOk.done (k : SOk R d) (o : WOk x) : SOk R (x.doneD R F d) := by
  unfold Ws.doneD
  split
  · exact k
  · split
    · exact k.flush o
    · exact (k.flush o).del _
theorem SOk.drop (k : SOk R d) : SOk R (x.dropD d) := by
  unfold Ws.dropD
  split
  · exact k
  · exact k.del _
theorem SOk.wr (k : SOk R d) : SOk R (wrD G d h) := by
  unfold wrD
  split
  · exact k
  · exact k.create
theorem SOk.load (k : SOk R d) : SOk R (y.loadD F d) := by
  unfold Rs.loadD
  split
  · exact k
  · split
    · exact k
    · exact k.read _ _
theorem SOk.next (k : SOk R d) : SOk R (y.next F d).d := by
  unfold Rs.next
  split
  · exact k
  · split
    · exact k
    · split
      · exact k.load
      · exact k.load
theorem mayE_ok (h : mayE r = 0) : rowOk r = true ∧ (encR r).length ≤ 253 := by
  unfold mayE at h
  cases hr : rowOk r with
  | false => rw [hr] at h; simp at h
  | true =>
    rw [hr, if_neg (by simp)] at h
    split at h
    · cases h
    · exact ⟨rfl, by omega⟩
theorem used_one (h : (encR r).length ≤ 253) : usedN [r] ≤ 256 := by
  unfold usedN flat
  simp
  omega
theorem WOk.one (h1 : rowOk r = true) (h2 : (encR r).length ≤ 253) {f n : Int} {e : Bool} {w : Int} (hn : 0 ≤ n ∧ n ≤ 1000000) (hf : (Lit.int .i64 f).wf = true) : WOk ⟨f, n, w, e, [r]⟩ :=
  ⟨fun q hq => by rw [List.mem_singleton.1 hq]; exact h1, used_one h2, hn, hf⟩
theorem WOk.none {f n : Int} {e : Bool} {w : Int} (hn : 0 ≤ n ∧ n ≤ 1000000) (hf : (Lit.int .i64 f).wf = true) : WOk ⟨f, n, w, e, []⟩ :=
  ⟨fun q hq => by simp at hq, show usedN [] ≤ 256 by decide, hn, hf⟩
theorem WOk.flushX (o : WOk x) : WOk (x.flushX R F d) := WOk.none o.num o.file
theorem WOk.putX (o : WOk x) (hn : x.n < 1000000) : WOk (x.putX R F d r) := by
  have hn0 := o.num
  unfold Ws.putX
  split
  · exact o
  · next hs =>
    have hm : mayE r = 0 := by
      unfold Ws.stop at hs
      by_cases h1 : x.ended = true
      · rw [if_pos h1] at hs; simp at hs
      · rw [if_neg h1] at hs
        by_cases h2 : x.wrong ≠ 0
        · rw [if_pos h2] at hs; exact absurd h2 hs
        · rw [if_neg h2] at hs; simpa using hs
    obtain ⟨h1, h2⟩ := mayE_ok hm
    split
    · split
      · exact o.flushX
      · exact WOk.one h1 h2 (by omega) o.file
    · next hu =>
      refine ⟨?_, Nat.le_of_not_lt hu, by dsimp only; omega, o.file⟩
      intro q hq
      rcases List.mem_append.1 hq with hq | hq
      · exact o.ok q hq
      · rw [List.mem_singleton.1 hq]; exact h1
theorem put_n : (x.putX R F d r).n ≤ x.n + 1 ∧ (x.putX R F d r).file = x.file ∧ (x.putX R F d r).ended = x.ended := by
  unfold Ws.putX
  split
  · exact ⟨by omega, rfl, rfl⟩
  · split
    · split
      · exact ⟨by unfold Ws.flushX; dsimp only; omega, rfl, rfl⟩
      · exact ⟨by dsimp only; omega, rfl, rfl⟩
    · exact ⟨by dsimp only; omega, rfl, rfl⟩
theorem WOk.doneX (o : WOk x) : WOk (x.doneX R F d) := by
  unfold Ws.doneX
  split
  · exact o
  · exact WOk.none o.num o.file
theorem WOk.dropX (o : WOk x) : WOk x.dropX := by
  unfold Ws.dropX
  split
  · exact o
  · exact ⟨o.ok, o.fit, o.num, o.file⟩
theorem wf_i64 {a : Int} (h0 : -9223372036854775808 ≤ a) (h1 : a ≤ 9223372036854775807) : (Lit.int .i64 a).wf = true := by
  simp [Lit.wf, IntKind.min, IntKind.max, IntKind.bits, IntKind.signed]
  omega
theorem WOk.new (k : SOk R d) (hm : d.made ≤ 1000000000) : WOk (wrX d) :=
  WOk.none (by omega) (wf_i64 (by have := k.dok.made; omega) (by omega))
end
end Go.Proofs.YtkbapoeilcapfaaGreat

/- spill: a place: take, give, Left. -/
namespace Go.Proofs.YtkbapoeilcapfaaGreat
open Go.RowKit Go.Maps
set_option linter.unusedVariables false
set_option linter.unusedSimpArgs false
set_option maxRecDepth 6000

abbrev pv (bd bl : Nat) : Value := .agg #[dp bd, lp bl, .int .i64 0]
section
variable {w0 w : World} {bd bl : Nat} {s : Ls} {G : Int} {Fr : Res}
theorem in_alloc {R : Res} (g : Good R) (H : In w0 w R) (o : Obj) : In w0 (w.alloc o) R := H.below g ((Below.refl _ _).alloc (Nat.le_refl _) _)
theorem t_take (g : Good Fr) (H : In w0 w (star (LR bl s) Fr)) (K : LOk G s) :
    Calls Tryz.prog 73 #[pv bd bl] w fun e w' => e = .returned (.int .i64 (s.takeE 0 1)) ∧ In w0 w' (star (LR bl (s.take_ 0 1)) Fr) := by
  have C := Lib.hid (fun W (h : In w0 W (star (LR bl s) Fr)) => r_take g h K (n := 0) (p := 1) (by decide) (by decide))
  have V := Lib.hid (fun o => in_alloc (star_good (LR_good _ _) g) H o)
  obtain ⟨t, ht⟩ : ∃ t, t = s.takeE 0 1 := ⟨_, rfl⟩
  rw [← ht] at C ⊢
  clear H K ht
  go_enter Tryz.func73, Tryz.ntmps73
  go_wp2_with (go_at_call 103; (with_reducible refine (C.out _ (V.out _)).mono ?_); rintro e w1 ⟨rfl, V1⟩; have V1 := Lib.hid V1)
  go_ret
  exact ⟨by trivial, V1.out⟩
theorem t_give (g : Good Fr) (H : In w0 w (star (LR bl s) Fr)) (K : LOk G s) :
    Calls Tryz.prog 75 #[pv bd bl] w fun e w' => e = .returned (.tuple #[]) ∧ In w0 w' (star (LR bl (s.give_ 0 1)) Fr) := by
  have C := Lib.hid (fun W (h : In w0 W (star (LR bl s) Fr)) => r_give g h K (n := 0) (p := 1) (by decide) (by decide))
  have V := Lib.hid (fun o => in_alloc (star_good (LR_good _ _) g) H o)
  obtain ⟨t, ht⟩ : ∃ t, t = s.giveE 0 1 := ⟨_, rfl⟩
  rw [← ht] at C
  clear H K ht
  go_enter Tryz.func75, Tryz.ntmps75
  go_wp2_with (go_at_call 104; (with_reducible refine (C.out _ (V.out _)).mono ?_); rintro e w1 ⟨rfl, V1⟩; have V1 := Lib.hid V1)
  go_end0
  exact ⟨by trivial, V1.out⟩
theorem t_left (g : Good Fr) (H : In w0 w (star (LR bl s) Fr)) (K : LOk G s) :
    Calls Tryz.prog 23 #[pv bd bl] w fun e w' => e = .returned (.int .i64 ((s.find 0).elim 0 (·.left))) ∧ Below w.heap.size w w' ∧ In w0 w' (star (LR bl s) Fr) := by
  have C := Lib.hid (fun W (h : In w0 W (star (LR bl s) Fr)) => r_left g h K (n := 0) (by decide))
  have V := Lib.hid (fun o => in_alloc (star_good (LR_good _ _) g) H o)
  obtain ⟨t, ht⟩ : ∃ t, t = (s.find 0).elim 0 (·.left) := ⟨_, rfl⟩
  rw [← ht] at C ⊢
  clear H K ht
  go_enter Tryz.func23, Tryz.ntmps23
  go_wp2_with (go_at_call 61; (with_reducible refine (C.out _ (V.out _)).mono ?_); rintro e w1 ⟨rfl, b1, V1⟩; have V1 := Lib.hid (And.intro b1 V1); clear b1)
  go_ret
  refine ⟨by trivial, ?_, V1.out.2⟩
  exact Below.trans ((Below.refl _ _).alloc (Nat.le_refl _) _) (V1.out.1.mono (by simp))
end
/-- A ledger of one account. -/
abbrev one (G h pk mo : Int) : Ls := ⟨0, mo, [⟨0, none, G, h, pk, 0, 0⟩]⟩
def LH (bl : Nat) (G h : Int) : Res := fun w S => ∃ pk mo, LOk G (one G h pk mo) ∧ LR bl (one G h pk mo) w S
theorem LH_good (bl : Nat) (G h : Int) : Good (LH bl G h) := by
  refine ⟨?_, ?_⟩
  · rintro w S ⟨pk, mo, k, h⟩
    exact (LR_good _ _).lt h
  · rintro w w' S T ⟨pk, mo, k, h⟩ ht hn
    exact ⟨pk, mo, k, (LR_good _ _).turn h ht hn⟩
/-- A place: its disk and its ledger. -/
def PL (bd bl : Nat) (R : Int) (F : List Int) (G : Int) (d : Ds) (h : Int) : Res := fun w S => SOk R d ∧ star (DR bd R F d) (LH bl G h) w S
theorem PL_good (bd bl : Nat) (R : Int) (F : List Int) (G : Int) (d : Ds) (h : Int) : Good (PL bd bl R F G d h) := by
  have g := star_good (DR_good bd R F d) (LH_good bl G h)
  exact ⟨fun h => g.lt h.2, fun h ht hn => ⟨h.1, g.turn h.2 ht hn⟩⟩
theorem LOk.bds {G h pk mo : Int} (k : LOk G (one G h pk mo)) : 0 ≤ h ∧ h ≤ G ∧ 0 ≤ G ∧ G ≤ 16384 := by
  have h1 := k.acc _ (List.mem_singleton.2 rfl)
  have h2 := k.grantG
  dsimp only at h1
  omega
theorem one_takeE (G h pk mo : Int) : (one G h pk mo).takeE 0 1 = if G ≤ h then 60 else 0 := by
  unfold Ls.takeE Ls.find Acc.left
  simp
  split <;> split <;> omega
theorem one_take (G h pk mo : Int) : ∃ pk' mo', (one G h pk mo).take_ 0 1 = one G (if G ≤ h then h else h + 1) pk' mo' := by
  by_cases hc : G ≤ h
  · exact ⟨pk, mo, by rw [take_keep (by rw [one_takeE, if_pos hc]; decide), if_pos hc]⟩
  · refine ⟨max pk (h + 1), max mo (sumL (updL (one G h pk mo).l 0 (holdA 1)) (·.held)), ?_⟩
    rw [take_do (by rw [one_takeE, if_neg hc]), if_neg hc]
    rfl
theorem one_give (G h pk mo : Int) : (one G h pk mo).give_ 0 1 = one G (giveH h) pk mo := by
  unfold giveH
  by_cases hc : 1 ≤ h
  · rw [if_pos hc, give_do]
    · rfl
    · unfold Ls.giveE Ls.find
      simp
      omega
  · rw [if_neg hc, give_keep]
    unfold Ls.giveE Ls.find
    simp
    omega
section
variable {w0 w : World} {bd bl : Nat} {R : Int} {F : List Int} {G : Int} {d : Ds} {h : Int} {Fr : Res}
theorem PL_ok (H : In w0 w (star (PL bd bl R F G d h) Fr)) : SOk R d ∧ 0 ≤ h ∧ h ≤ G ∧ 0 ≤ G ∧ G ≤ 16384 := by
  obtain ⟨⟨S, ⟨S1, S2, ⟨k, T1, T2, h1, ⟨pk, mo, k2, h2⟩, _⟩, _⟩, _⟩, _⟩ := H
  exact ⟨k, k2.bds⟩
theorem PL_open (H : In w0 w (star (PL bd bl R F G d h) Fr)) : ∃ pk mo, LOk G (one G h pk mo) ∧ In w0 w (star (LR bl (one G h pk mo)) (star (DR bd R F d) Fr)) := by
  obtain ⟨⟨S, ⟨S1, S2, ⟨k, T1, T2, h1, ⟨pk, mo, k2, h2⟩, e1, e2⟩, h3, e3, e4⟩, hge⟩, hb⟩ := H
  exact ⟨pk, mo, k2, ⟨S, star_swap (star_assoc ⟨S1, S2, ⟨T1, T2, h1, h2, e1, e2⟩, h3, e3, e4⟩), hge⟩, hb⟩
theorem PL_shut {pk mo : Int} (K : SOk R d) (k : LOk G (one G h pk mo)) (H : In w0 w (star (LR bl (one G h pk mo)) (star (DR bd R F d) Fr))) : In w0 w (star (PL bd bl R F G d h) Fr) :=
  H.swap.assoc'.imp fun S h => star_mono h (fun S h => ⟨K, star_mono h (fun _ => id) (fun S h => ⟨pk, mo, k, h⟩)⟩) (fun _ => id)
theorem PL_disk (H : In w0 w (star (PL bd bl R F G d h) Fr)) : In w0 w (star (DR bd R F d) (star (LH bl G h) Fr)) :=
  (H.imp fun S h => star_mono h (fun S h => h.2) (fun _ => id)).assoc
theorem PL_disk' (K : SOk R d) (H : In w0 w (star (DR bd R F d) (star (LH bl G h) Fr))) : In w0 w (star (PL bd bl R F G d h) Fr) :=
  H.assoc'.imp fun S h => star_mono h (fun S h => ⟨K, h⟩) (fun _ => id)
theorem s_take (g : Good Fr) (H : In w0 w (star (PL bd bl R F G d h) Fr)) :
    Calls Tryz.prog 73 #[pv bd bl] w fun e w' => e = .returned (.int .i64 (if G ≤ h then 60 else 0)) ∧ In w0 w' (star (PL bd bl R F G d (if G ≤ h then h else h + 1)) Fr) := by
  obtain ⟨K, _⟩ := PL_ok H
  obtain ⟨pk, mo, k, H1⟩ := PL_open H
  have t := t_take (bd := bd) (star_good (DR_good _ _ _ _) g) H1 k
  rw [one_takeE] at t
  obtain ⟨pk', mo', e⟩ := one_take G h pk mo
  have k' := k.take_ 0 1
  rw [e] at t k'
  exact t.mono fun e w' h => ⟨h.1, PL_shut K k' h.2⟩
theorem s_give (g : Good Fr) (H : In w0 w (star (PL bd bl R F G d h) Fr)) :
    Calls Tryz.prog 75 #[pv bd bl] w fun e w' => e = .returned (.tuple #[]) ∧ In w0 w' (star (PL bd bl R F G d (giveH h)) Fr) := by
  obtain ⟨K, _⟩ := PL_ok H
  obtain ⟨pk, mo, k, H1⟩ := PL_open H
  have t := t_give (bd := bd) (star_good (DR_good _ _ _ _) g) H1 k
  have k' := k.give_ 0 1
  rw [one_give] at t k'
  exact t.mono fun e w' h => ⟨h.1, PL_shut K k' h.2⟩
theorem s_left (g : Good Fr) (H : In w0 w (star (PL bd bl R F G d h) Fr)) :
    Calls Tryz.prog 23 #[pv bd bl] w fun e w' => e = .returned (.int .i64 (G - h)) ∧ Below w.heap.size w w' ∧ In w0 w' (star (PL bd bl R F G d h) Fr) := by
  obtain ⟨K, _⟩ := PL_ok H
  obtain ⟨pk, mo, k, H1⟩ := PL_open H
  have t := t_left (bd := bd) (star_good (DR_good _ _ _ _) g) H1 k
  have e : ((one G h pk mo).find 0).elim 0 (·.left) = G - h := by
    unfold Ls.find Acc.left
    simp
  rw [e] at t
  exact t.mono fun e w' h => ⟨h.1, h.2.1, PL_shut K k h.2.2⟩
theorem s_total (g : Good Fr) (H : In w0 w (star (PL bd bl R F G d h) Fr)) :
    Calls Tryz.prog 52 #[lp bl] w fun e w' => e = .returned (.int .i64 h) ∧ Below w.heap.size w w' ∧ In w0 w' (star (PL bd bl R F G d h) Fr) := by
  obtain ⟨K, _⟩ := PL_ok H
  obtain ⟨pk, mo, k, H1⟩ := PL_open H
  have t := r_total (star_good (DR_good _ _ _ _) g) H1 k
  have e : (one G h pk mo).total = h := by
    unfold Ls.total sumL
    simp
  rw [e] at t
  exact t.mono fun e w' h => ⟨h.1, h.2.1, PL_shut K k h.2.2⟩
theorem s_create (g : Good Fr) (H : In w0 w (star (PL bd bl R F G d h) Fr)) (hm : d.made ≤ 1000000000) :
    Calls Tryz.prog 74 #[dp bd] w fun e w' => e = .returned (.tuple #[.int .i64 (if d.createE = 0 then d.made + 1 else 0), .int .i64 d.createE]) ∧ In w0 w' (star (PL bd bl R F G d.create h) Fr) := by
  obtain ⟨K, _⟩ := PL_ok H
  exact (v_create (star_good (LH_good _ _ _) g) (PL_disk H) K.dok hm).mono fun e w' h => ⟨h.1, PL_disk' K.create h.2⟩
theorem s_del (g : Good Fr) (H : In w0 w (star (PL bd bl R F G d h) Fr)) {n : Int} (hw : (Lit.int .i64 n).wf = true) :
    Calls Tryz.prog 57 #[dp bd, .int .i64 n] w fun e w' => e = .returned (.int .i64 (d.delE n)) ∧ In w0 w' (star (PL bd bl R F G (d.del n) h) Fr) := by
  obtain ⟨K, _⟩ := PL_ok H
  exact (v_del (star_good (LH_good _ _ _) g) (PL_disk H) K.dok hw).mono fun e w' h => ⟨h.1, PL_disk' (K.del n) h.2⟩
theorem s_size (g : Good Fr) (H : In w0 w (star (PL bd bl R F G d h) Fr)) {n : Int} (hw : (Lit.int .i64 n).wf = true) :
    Calls Tryz.prog 19 #[dp bd, .int .i64 n] w fun e w' => e = .returned (.tuple #[.int .i64 ((d.find n).elim 0 fun l => (l.length : Int)), .int .i64 (if (d.find n).isSome then 0 else 4)]) ∧ w' = w :=
  v_size (star_good (LH_good _ _ _) g) (PL_disk H) hw
theorem s_read (g : Good Fr) (H : In w0 w (star (PL bd bl R F G d h) Fr)) (hd : d.deeds ≤ 1000000000) {n i : Int} (hw : (Lit.int .i64 n).wf = true) :
    Calls Tryz.prog 110 #[dp bd, .int .i64 n, .int .i64 i] w fun e w' => ∃ v : Option Addr × Nat × Nat, e = .returned (.tuple #[.slice v.1 v.2.1 v.2.2, .int .i64 (d.readE F n i)]) ∧ In w0 w' (star (PL bd bl R F G (d.read F n i) h) (star (rowR 5 1 (.slice v.1 v.2.1 v.2.2) v.2.1 (b8 (d.readQ F n i))) Fr)) := by
  obtain ⟨K, _⟩ := PL_ok H
  exact (v_read (star_good (LH_good _ _ _) g) (PL_disk H) K.dok hd hw).mono fun e w' ⟨v, h1, h2⟩ => ⟨v, h1, PL_disk' (K.read n i) (h2.imp fun S h => star_mono h (fun _ => id) (fun _ => star_swap))⟩
theorem s_files (g : Good Fr) (H : In w0 w (star (PL bd bl R F G d h) Fr)) : Calls Tryz.prog 26 #[dp bd] w fun e w' => ∃ A c, e = .returned (.slice A d.fs.length c) ∧ In w0 w' (star (PL bd bl R F G d h) Fr) := by
  obtain ⟨K, _⟩ := PL_ok H
  exact (v_files (star_good (LH_good _ _ _) g) (PL_disk H) K.dok).mono fun e w' ⟨A, c, h1, h2⟩ => ⟨A, c, h1, PL_disk' K h2.drop⟩
end
end Go.Proofs.YtkbapoeilcapfaaGreat

/- spill: a writer as a thing apart; closed, Len. -/
namespace Go.Proofs.YtkbapoeilcapfaaGreat
open Go.RowKit Go.Maps
set_option linter.unusedVariables false
set_option linter.unusedSimpArgs false
set_option maxRecDepth 6000

abbrev wObj (bd bl : Nat) (x : Ws) (pv : Value) : Obj := .cells #[dp bd, lp bl, .int .i64 0, .int .i64 x.file, pv, .int .i64 x.n, .int .i64 x.wrong, .bool x.ended] 139 (0, 0)
abbrev wp_ (bw : Nat) : Value := .pointer (some ⟨bw, 0, none⟩)
abbrev pgR (pv : Value) (rows : List (List V)) : Res := rowR 5 1 pv 256 (u8s (mkP rows))
def WR (bw bd bl : Nat) (x : Ws) : Res := fun w S => WOk x ∧ ∃ pv, star (blkR bw (wObj bd bl x pv)) (pgR pv x.rows) w S
theorem WR_good (bw bd bl : Nat) (x : Ws) : Good (WR bw bd bl x) := by
  refine ⟨?_, ?_⟩
  · rintro w S ⟨_, pv, h⟩
    exact (star_good (blkR_good _ _) (rowR_good _ _ _ _ _)).lt h
  · rintro w w' S T ⟨k, pv, h⟩ ht hn
    exact ⟨k, pv, (star_good (blkR_good _ _) (rowR_good _ _ _ _ _)).turn h ht hn⟩
section
variable {w0 w : World} {bw bd bl : Nat} {x : Ws} {F A : Res}
theorem own_some {w : World} {base : Nat} {e : TypeId} {n : Nat} {v : Value} {xs : List Value} (h : w.ownsRow base e 1 v n xs) (hn : 0 < n) : ∃ g c, v = .slice (some ⟨g, 0, none⟩) n c := by
  rcases h.2 with ⟨e1, e2⟩ | ⟨g, cap, cur, e1, _⟩
  · have := h.1
    subst e2
    simp at this
    omega
  · exact ⟨g, cap, e1⟩
theorem WR_open (H : In w0 w (star (WR bw bd bl x) F)) : ∃ g c, WOk x ∧ In w0 w (star (blkR bw (wObj bd bl x (.slice (some ⟨g, 0, none⟩) 256 c))) (star (pgR (.slice (some ⟨g, 0, none⟩) 256 c) x.rows) F)) := by
  obtain ⟨⟨S, ⟨S1, S2, ⟨k, pv, h1⟩, h2, hd, hs⟩, hge⟩, hb⟩ := H
  obtain ⟨g, c, rfl⟩ : ∃ g c, pv = .slice (some ⟨g, 0, none⟩) 256 c := by
    obtain ⟨_, _, _, ⟨ho, _⟩, _, _⟩ := h1
    exact own_some ho (by decide)
  exact ⟨g, c, k, ⟨S, star_assoc ⟨S1, S2, h1, h2, hd, hs⟩, hge⟩, hb⟩
theorem WR_shut {pv : Value} (K : WOk x) (H : In w0 w (star (blkR bw (wObj bd bl x pv)) (star (pgR pv x.rows) F))) : In w0 w (star (WR bw bd bl x) F) :=
  H.assoc'.imp fun S h => star_mono h (fun S h => ⟨K, pv, h⟩) (fun _ => id)
theorem WR_cells {pv : Value} {F' : Res} (H : In w0 w (star (blkR bw (wObj bd bl x pv)) F')) :
    w.cell? ⟨bw, 0, none⟩ = some (dp bd) ∧ w.cell? ⟨bw, 1, none⟩ = some (lp bl) ∧ w.cell? ⟨bw, 2, none⟩ = some (.int .i64 0) ∧ w.cell? ⟨bw, 3, none⟩ = some (.int .i64 x.file) ∧ w.cell? ⟨bw, 4, none⟩ = some pv ∧ w.cell? ⟨bw, 5, none⟩ = some (.int .i64 x.n) ∧ w.cell? ⟨bw, 6, none⟩ = some (.int .i64 x.wrong) ∧ w.cell? ⟨bw, 7, none⟩ = some (.bool x.ended) := by
  have h := H.left.get fun S h => h.1
  exact ⟨cell_of_blk h 0, cell_of_blk h 1, cell_of_blk h 2, cell_of_blk h 3, cell_of_blk h 4, cell_of_blk h 5, cell_of_blk h 6, cell_of_blk h 7⟩
theorem WR_free {pv : Value} {F' : Res} (H : In w0 w (star (blkR bw (wObj bd bl x pv)) F')) (i : Nat) : w.frozen? ⟨bw, i, none⟩ = false :=
  free_of_blk (H.left.get fun S h => h.1) i
theorem WR_ok (H : In w0 w (star (WR bw bd bl x) F)) : WOk x := by
  obtain ⟨_, _, k, _⟩ := WR_open H
  exact k
theorem w_closed (g : Good F) (H : In w0 w (star (WR bw bd bl x) F)) : Calls Tryz.prog 77 #[wp_ bw] w fun e w' => e = .returned (.bool x.ended) ∧ w' = w := by
  obtain ⟨gp, c, _, H1⟩ := WR_open H
  obtain ⟨c0, c1, c2, c3, c4, c5, c6, c7⟩ := WR_cells H1
  obtain ⟨file, n, wrong, ended, rows⟩ := x
  dsimp only at *
  clear H H1
  have hcmp := Go.Lib.run_eql_slice_nil (P := Tryz.prog) w 136 5 (some ⟨gp, 0, none⟩) 256 c 0 0 Tryz.underlying136
  go_enter Tryz.func77, Tryz.ntmps77
  go_wp2
  go_ret
  exact ⟨by trivial, rfl⟩
theorem w_len (g : Good F) (H : In w0 w (star (WR bw bd bl x) F)) : Calls Tryz.prog 39 #[wp_ bw] w fun e w' => e = .returned (.int .i64 x.n) ∧ w' = w := by
  obtain ⟨gp, c, _, H1⟩ := WR_open H
  obtain ⟨c0, c1, c2, c3, c4, c5, c6, c7⟩ := WR_cells H1
  obtain ⟨file, n, wrong, ended, rows⟩ := x
  dsimp only at *
  clear H H1
  go_enter Tryz.func39, Tryz.ntmps39
  go_wp2
  go_ret
  exact ⟨by trivial, rfl⟩
end
end Go.Proofs.YtkbapoeilcapfaaGreat

/- spill: a writer's flush. -/
namespace Go.Proofs.YtkbapoeilcapfaaGreat
open Go.RowKit Go.Maps
set_option linter.unusedVariables false
set_option linter.unusedSimpArgs false
set_option maxRecDepth 6000

theorem mkP_nil : mkP [] = List.replicate 256 0 := (mkP_PG [] (by decide)).unique PG.nil
theorem own_rdb {w : World} {g c : Nat} {rows : List (List V)} (h : w.ownsRow 0 5 1 (.slice (some ⟨g, 0, none⟩) 256 c) 256 (u8s (mkP rows))) (hok : ∀ r ∈ rows, rowOk r = true) (hu : usedN rows ≤ 256) : RdB w (some ⟨g, 0, none⟩) 256 c (mkP rows) := by
  obtain ⟨g0, L, cap, e, _, hg, hcap, hcm, _, _⟩ := own_block h (by omega)
  injection e with e1 _ e3
  subst e3
  exact ⟨(Rd1.of_own h).2, isB_mkP rows hok hu, hcap, by simp only [maxLen] at hcm; omega⟩
theorem new_row {w : World} {g base : Nat} (hb : base ≤ g) (h : w.heap[g]? = some (.cells (u8s (List.replicate 256 0)).toArray 5 (0, 0))) : w.ownsRow base 5 1 (.slice (some ⟨g, 0, none⟩) 256 256) 256 (u8s (mkP [])) := by
  rw [mkP_nil]
  exact ⟨by simp, .inr ⟨g, 256, _, rfl, hb, h, Nat.le_refl _, by decide, by simp, by simp⟩⟩
theorem in_drew {w0 w : World} {R : Res} (g : Good R) (H : In w0 w R) : In w0 w.drew R := H.below g ⟨rfl, rfl, rfl, Nat.le_refl _, fun _ _ => rfl⟩
section
variable {w0 w : World} {bd bl bw : Nat} {R : Int} {F : List Int} {G : Int} {d : Ds} {h : Int} {x : Ws} {Fr A : Res}
/-- page.New beside a frame. -/
theorem p_new (g : Good A) (H : In w0 w A) : Calls Tryz.prog 76 #[] w fun e w' => ∃ b, e = .returned (.slice (some ⟨b, 0, none⟩) 256 256) ∧ In w0 w' (star A (pgR (.slice (some ⟨b, 0, none⟩) 256 256) [])) :=
  (pnew w).mono fun e w' h => ⟨_, h.1, H.row g h.2.2 (new_row (Nat.le_refl _) h.2.1)⟩
theorem p_count {g c : Nat} (gA : Good A) (H : In w0 w (star (pgR (.slice (some ⟨g, 0, none⟩) 256 c) x.rows) A)) (K : WOk x) : Calls Tryz.prog 108 #[.slice (some ⟨g, 0, none⟩) 256 c] w fun e w' => e = .returned (.int .i64 x.rows.length) ∧ Below w.heap.size w w' := by
  have h := own_rdb (H.left.get fun S h => h.1) K.ok K.fit
  exact pcount_yes h (scanS_compl h.isb (mkP_PG _ K.fit) K.ok)
abbrev pgv (g c : Nat) : Value := .slice (some ⟨g, 0, none⟩) 256 c
/-- The writer opened, ahead of the place. -/
abbrev Wo (bd bl bw : Nat) (R : Int) (F : List Int) (G : Int) (d : Ds) (h : Int) (x : Ws) (g c : Nat) (Fr : Res) : Res := star (blkR bw (wObj bd bl x (pgv g c))) (star (pgR (pgv g c) x.rows) (star (PL bd bl R F G d h) Fr))
theorem Wo_open (H : In w0 w (star (PL bd bl R F G d h) (star (WR bw bd bl x) Fr))) : ∃ g c, WOk x ∧ In w0 w (Wo bd bl bw R F G d h x g c Fr) := WR_open H.swap
theorem Wo_shut {g c : Nat} (K : WOk x) (H : In w0 w (Wo bd bl bw R F G d h x g c Fr)) : In w0 w (star (PL bd bl R F G d h) (star (WR bw bd bl x) Fr)) := (WR_shut K H).swap
theorem Wo_good (g : Good Fr) (gp c : Nat) : Good (Wo bd bl bw R F G d h x gp c Fr) := star_good (blkR_good _ _) (star_good (rowR_good _ _ _ _ _) (star_good (PL_good _ _ _ _ _ _ _) g))
/-- Behind the new page. -/
theorem f_new (g : Good Fr) {gp c : Nat} (K : WOk x) (H : In w0 w (Wo bd bl bw R F G d h x gp c Fr)) :
    Calls Tryz.prog 76 #[] w fun e w' => ∃ b, e = .returned (pgv b 256) ∧ (w'.cell? ⟨bw, 4, none⟩ = some (pgv gp c) ∧ w'.cell? ⟨bw, 6, none⟩ = some (.int .i64 x.wrong) ∧ w'.frozen? ⟨bw, 4, none⟩ = false) ∧
      In w0 (w'.setCell ⟨bw, 4, none⟩ (pgv b 256)) (star (PL bd bl R F G d h) (star (WR bw bd bl ⟨x.file, x.n, x.wrong, x.ended, []⟩) Fr)) := by
  have H2 := H.drop
  have gA : Good (star (blkR bw (wObj bd bl x (pgv gp c))) (star (PL bd bl R F G d h) Fr)) := star_good (blkR_good _ _) (star_good (PL_good _ _ _ _ _ _ _) g)
  refine (p_new gA H2).mono fun e w' h => ?_
  obtain ⟨b, h1, h2⟩ := h
  have h3 := h2.assoc
  have hc := WR_cells h3
  refine ⟨b, h1, ⟨hc.2.2.2.2.1, hc.2.2.2.2.2.2.1, WR_free h3 4⟩, ?_⟩
  have h4 := h3.put (star_good (star_good (PL_good _ _ _ _ _ _ _) g) (rowR_good _ _ _ _ _)) 4 (pgv b 256)
  exact (WR_shut (x := ⟨x.file, x.n, x.wrong, x.ended, []⟩) (WOk.none K.num K.file) (h4.imp fun S h => star_mono h (fun _ => id) (fun _ => star_comm))).swap
theorem flush_a (g : Good Fr) (H : In w0 w (star (PL bd bl R F G d h) (star (WR bw bd bl x) Fr))) (hw : x.wrong ≠ 0) :
    Calls Tryz.prog 79 #[wp_ bw] w fun e w' => e = .returned (.int .i64 (x.flushE R F d)) ∧ In w0 w' (star (PL bd bl R F G (x.flushD R F d) h) (star (WR bw bd bl (x.flushX R F d)) Fr)) := by
  have e1 : x.flushE R F d = x.wrong := if_neg (fun h => hw h.1)
  have e2 : x.flushD R F d = d := if_neg (fun h => hw h.1)
  unfold Ws.flushX
  rw [e1, e2]
  obtain ⟨gp, c, K, H1⟩ := Wo_open H
  obtain ⟨c0, c1, c2, c3, c4, c5, c6, c7⟩ := WR_cells H1
  have CN := Lib.hid (f_new g K H1)
  have hne : (x.wrong == 0) = false := by simpa using hw
  obtain ⟨file, n, wrong, ended, rows⟩ := x
  dsimp only at *
  clear H H1 K e1 e2
  go_enter Tryz.func79, Tryz.ntmps79
  go_wp2_with (go_at_call 76; (with_reducible refine CN.out.mono ?_); rintro e w1 ⟨b, rfl, ⟨k1, k2, k3⟩, V⟩; have V1 := Lib.hid V; clear V CN)
  go_ret
  exact ⟨by trivial, V1.out⟩
theorem flush_b (g : Good Fr) (H : In w0 w (star (PL bd bl R F G d h) (star (WR bw bd bl x) Fr))) (hw : x.wrong = 0) (hr : x.rows = []) :
    Calls Tryz.prog 79 #[wp_ bw] w fun e w' => e = .returned (.int .i64 (x.flushE R F d)) ∧ In w0 w' (star (PL bd bl R F G (x.flushD R F d) h) (star (WR bw bd bl (x.flushX R F d)) Fr)) := by
  have e1 : x.flushE R F d = x.wrong := if_neg (fun h => h.2 hr)
  have e2 : x.flushD R F d = d := if_neg (fun h => h.2 hr)
  unfold Ws.flushX
  rw [e1, e2]
  obtain ⟨gp, c, K, H1⟩ := Wo_open H
  obtain ⟨c0, c1, c2, c3, c4, c5, c6, c7⟩ := WR_cells H1
  have CC := p_count (x := x) (star_good (blkR_good _ _) (star_good (PL_good _ _ _ _ _ _ _) g)) H1.swap K
  rw [hr] at CC
  have CC := Lib.hid CC
  have CN := Lib.hid (fun W (b : Below w.heap.size w W) => f_new g K (H1.below (Wo_good g _ _) b))
  have CK := Lib.hid (fun W (b : Below w.heap.size w W) => WR_cells (H1.below (Wo_good g _ _) b))
  have hne : (x.wrong == 0) = true := by simpa using hw
  obtain ⟨file, n, wrong, ended, rows⟩ := x
  dsimp only at *
  clear H H1 K e1 e2 hw hr
  go_enter Tryz.func79, Tryz.ntmps79
  go_wp2_with (first
    | (go_at_call 108; (with_reducible refine CC.out.mono ?_); rintro e w1 ⟨rfl, b1⟩; have B1 := Lib.hid b1; clear b1 CC; obtain ⟨_, _, _, _, k4, _, k6, _⟩ := CK.out _ B1.out)
    | (go_at_call 76; (with_reducible refine (CN.out _ B1.out).mono ?_); rintro e w1 ⟨b, rfl, ⟨k1, k2, k3⟩, V⟩; have V1 := Lib.hid V; clear V CN))
  go_ret
  exact ⟨by trivial, V1.out⟩
theorem s_app (g : Good Fr) {gp c : Nat} {rows : List (List V)} {n : Int} (H : In w0 w (star (PL bd bl R F G d h) (star (pgR (pgv gp c) rows) Fr))) (hr : rows ≠ []) (hok : ∀ r ∈ rows, rowOk r = true) (hu : usedN rows ≤ 256) (hd : d.deeds ≤ 1000000000) (hw : (Lit.int .i64 n).wf = true) :
    Calls Tryz.prog 109 #[dp bd, .int .i64 n, pgv gp c] w fun e w' => e = .returned (.int .i64 (d.appE R F n (mkP rows))) ∧ In w0 w' (star (PL bd bl R F G (d.app R F n (mkP rows)) h) (star (pgR (pgv gp c) rows) Fr)) := by
  obtain ⟨K, _⟩ := PL_ok H
  have H1 := (PL_disk H).imp fun S h => star_mono h (fun _ => id) (fun _ => star_swap)
  exact (v_app (star_good (LH_good _ _ _) g) H1 K.dok hd hw).mono fun e w' h => ⟨h.1, PL_disk' (K.app hr hok hu n) (h.2.imp fun S h => star_mono h (fun _ => id) (fun _ => star_swap))⟩
theorem Wo_place {gp c : Nat} {y : Ws} (H : In w0 w (Wo bd bl bw R F G d h y gp c Fr)) : In w0 w (star (PL bd bl R F G d h) (star (pgR (pgv gp c) y.rows) (star (blkR bw (wObj bd bl y (pgv gp c))) Fr))) :=
  (H.imp fun S h => star_mono h (fun _ => id) (fun _ => star_swap)).swap.imp fun S h => star_mono h (fun _ => id) (fun _ => star_swap)
theorem Wo_place' {gp c : Nat} {y : Ws} (H : In w0 w (star (PL bd bl R F G d h) (star (pgR (pgv gp c) y.rows) (star (blkR bw (wObj bd bl y (pgv gp c))) Fr)))) : In w0 w (Wo bd bl bw R F G d h y gp c Fr) :=
  ((H.imp fun S h => star_mono h (fun _ => id) (fun _ => star_swap)).swap).imp fun S h => star_mono h (fun _ => id) (fun _ => star_swap)
set_option maxHeartbeats 1000000 in
theorem flush_c (g : Good Fr) (H : In w0 w (star (PL bd bl R F G d h) (star (WR bw bd bl x) Fr))) (hd : d.deeds ≤ 1000000000) (hw : x.wrong = 0) (hr : x.rows ≠ []) :
    Calls Tryz.prog 79 #[wp_ bw] w fun e w' => e = .returned (.int .i64 (x.flushE R F d)) ∧ In w0 w' (star (PL bd bl R F G (x.flushD R F d) h) (star (WR bw bd bl (x.flushX R F d)) Fr)) := by
  have e1 : x.flushE R F d = d.appE R F x.file (mkP x.rows) := if_pos ⟨hw, hr⟩
  have e2 : x.flushD R F d = d.app R F x.file (mkP x.rows) := if_pos ⟨hw, hr⟩
  unfold Ws.flushX
  rw [e1, e2]
  obtain ⟨gp, c, K, H1⟩ := Wo_open H
  obtain ⟨c0, c1, c2, c3, c4, c5, c6, c7⟩ := WR_cells H1
  have CC := Lib.hid (p_count (x := x) (star_good (blkR_good _ _) (star_good (PL_good _ _ _ _ _ _ _) g)) H1.swap K)
  have CA := Lib.hid (fun W (V : In w0 W (Wo bd bl bw R F G d h x gp c Fr)) => (s_app (star_good (blkR_good _ _) g) (Wo_place V) hr K.ok K.fit hd K.file).mono fun (e : Ending) (w' : World) hh => show e = .returned (.int .i64 (d.appE R F x.file (mkP x.rows))) ∧ (w'.cell? ⟨bw, 0, none⟩ = some (dp bd) ∧ w'.cell? ⟨bw, 3, none⟩ = some (.int .i64 x.file) ∧ w'.cell? ⟨bw, 4, none⟩ = some (pgv gp c) ∧ w'.cell? ⟨bw, 6, none⟩ = some (.int .i64 x.wrong) ∧ w'.frozen? ⟨bw, 6, none⟩ = false) ∧
      In w0 (w'.setCell ⟨bw, 6, none⟩ (.int .i64 (d.appE R F x.file (mkP x.rows)))) (Wo bd bl bw R F G (d.app R F x.file (mkP x.rows)) h ⟨x.file, x.n, d.appE R F x.file (mkP x.rows), x.ended, x.rows⟩ gp c Fr) from by
    obtain ⟨h1, h2⟩ := hh
    have h3 := Wo_place' h2
    obtain ⟨k0, k1, k2, k3, k4, k5, k6, k7⟩ := WR_cells h3
    exact ⟨h1, ⟨k0, k3, k4, k6, WR_free h3 6⟩, h3.put (star_good (rowR_good _ _ _ _ _) (star_good (PL_good _ _ _ _ _ _ _) g)) 6 _⟩)
  have CN := Lib.hid (fun W (V : In w0 W (Wo bd bl bw R F G (d.app R F x.file (mkP x.rows)) h ⟨x.file, x.n, d.appE R F x.file (mkP x.rows), x.ended, x.rows⟩ gp c Fr)) => f_new (x := ⟨x.file, x.n, d.appE R F x.file (mkP x.rows), x.ended, x.rows⟩) g ⟨K.ok, K.fit, K.num, K.file⟩ V)
  have CK := Lib.hid (fun W (b : Below w.heap.size w W) => WR_cells (H1.below (Wo_good g _ _) b))
  have CV := Lib.hid (fun W (b : Below w.heap.size w W) => in_drew (Wo_good g _ _) (H1.below (Wo_good g _ _) b))
  have hne : (x.wrong == 0) = true := by simpa using hw
  have hln : (0 : Int) < x.rows.length := by
    have := List.length_pos_iff.2 hr
    omega
  obtain ⟨E, hE⟩ : ∃ E, E = d.appE R F x.file (mkP x.rows) := ⟨_, rfl⟩
  obtain ⟨D, hD⟩ : ∃ D, D = d.app R F x.file (mkP x.rows) := ⟨_, rfl⟩
  rw [← hE, ← hD] at CA CN ⊢
  obtain ⟨file, n, wrong, ended, rows⟩ := x
  dsimp only at *
  clear H H1 K e1 e2 hw hr hE hD
  go_enter Tryz.func79, Tryz.ntmps79
  go_wp2_with (go_at_call 108; (with_reducible refine CC.out.mono ?_); rintro e w1 ⟨rfl, b1⟩; have B1 := Lib.hid b1; clear b1 CC; obtain ⟨k0, _, _, k3, k4, _, k6, _⟩ := CK.out _ B1.out)
  go_region_held3 (fun w' => w'.cell? ⟨bw, 0, none⟩ = some (dp bd) ∧ w'.cell? ⟨bw, 3, none⟩ = some (.int .i64 file) ∧ w'.cell? ⟨bw, 4, none⟩ = some (pgv gp c)) (first | go_keep | (refine ⟨?_, ?_, ?_⟩ <;> assumption)) (first
    | (go_at_call 109; (with_reducible refine (CA.out _ (CV.out _ B1.out)).mono ?_); rintro e w2 ⟨rfl, ⟨m0, m3, m4, m6, mf⟩, V⟩; obtain ⟨s0, _, _, s3, s4, _, s6, _⟩ := WR_cells V; have V2 := Lib.hid V; clear V))
  all_goals go_wp2_with (go_at_call 76; (with_reducible refine (CN.out _ V2.out).mono ?_); rintro e w3 ⟨b, rfl, ⟨q1, q2, q3⟩, V⟩; have V3 := Lib.hid V; clear V)
  all_goals go_ret
  all_goals exact ⟨by trivial, V3.out⟩
theorem w_flush (g : Good Fr) (H : In w0 w (star (PL bd bl R F G d h) (star (WR bw bd bl x) Fr))) (hd : d.deeds ≤ 1000000000) :
    Calls Tryz.prog 79 #[wp_ bw] w fun e w' => e = .returned (.int .i64 (x.flushE R F d)) ∧ In w0 w' (star (PL bd bl R F G (x.flushD R F d) h) (star (WR bw bd bl (x.flushX R F d)) Fr)) := by
  by_cases hw : x.wrong = 0
  · by_cases hr : x.rows = []
    · exact flush_b g H hw hr
    · exact flush_c g H hd hw hr
  · exact flush_a g H hw
end
end Go.Proofs.YtkbapoeilcapfaaGreat

/- spill: a writer's Put. -/
namespace Go.Proofs.YtkbapoeilcapfaaGreat
open Go.RowKit Go.Maps
set_option linter.unusedVariables false
set_option linter.unusedSimpArgs false
set_option maxRecDepth 6000

section
variable {w0 w : World} {bd bl bw : Nat} {R : Int} {F : List Int} {G : Int} {d : Ds} {h : Int} {x : Ws} {r : List V} {Fr A : Res} {C : Option Addr} {m cc : Nat}
/-- What stops a row at the page itself. -/
def addE (rows : List (List V)) (r : List V) : Int := if mayE r ≠ 0 then mayE r else if 256 < usedN (rows ++ [r]) then 2 else 0
theorem p_add_no {gp c : Nat} (H : In w0 w (star (pgR (pgv gp c) x.rows) A)) (K : WOk x) (hr : RdV w C m r) (he : addE x.rows r ≠ 0) :
    Calls Tryz.prog 78 #[pgv gp c, .slice C m cc] w fun e w' => e = .returned (.tuple #[.slice none 0 0, .int .i64 (addE x.rows r)]) ∧ Below w.heap.size w w' := by
  have h := own_rdb (H.left.get fun S h => h.1) K.ok K.fit
  refine (add_walk h (mkP_PG _ K.fit) K.ok hr).mono fun e w' ⟨h1, h2⟩ => ⟨?_, h2⟩
  unfold addE at he ⊢
  by_cases hk : rowOk r = false
  · have e1 : mayE r = 20 := if_pos hk
    rw [e1, if_pos (by decide)]
    rwa [if_pos hk] at h1
  · rw [if_neg hk] at h1
    by_cases hl : 253 < (encR r).length
    · have e1 : mayE r = 3 := by unfold mayE; rw [if_neg hk, if_pos hl]
      rw [e1, if_pos (by decide)]
      rwa [if_pos hl] at h1
    · have e1 : mayE r = 0 := by unfold mayE; rw [if_neg hk, if_neg hl]
      rw [if_neg hl] at h1
      rw [e1, if_neg (by decide)] at he ⊢
      by_cases hu : 256 < usedN (x.rows ++ [r])
      · rw [if_pos hu]
        rwa [if_pos hu] at h1
      · rw [if_neg hu] at he
        exact absurd rfl he
theorem p_add_yes {gp c : Nat} (gA : Good A) (H : In w0 w (star (pgR (pgv gp c) x.rows) A)) (K : WOk x) (hr : RdV w C m r) (he : addE x.rows r = 0) :
    Calls Tryz.prog 78 #[pgv gp c, .slice C m cc] w fun e w' => ∃ g' c', e = .returned (.tuple #[pgv g' c', .int .i64 0]) ∧ In w0 w' (star (star (pgR (pgv gp c) x.rows) A) (pgR (pgv g' c') (x.rows ++ [r]))) := by
  have h := own_rdb (H.left.get fun S h => h.1) K.ok K.fit
  have e0 : mayE r = 0 ∧ usedN (x.rows ++ [r]) ≤ 256 := by
    unfold addE at he
    by_cases e : mayE r ≠ 0
    · rw [if_pos e] at he; exact absurd he e
    · rw [if_neg e] at he
      refine ⟨by simpa using e, ?_⟩
      split at he
      · cases he
      · omega
  obtain ⟨k1, k2⟩ := mayE_ok e0.1
  refine (add_ok (cc := cc) h (mkP_PG _ K.fit) K.ok hr k1 k2 e0.2).mono fun e w' ⟨ad', c', h1, h2, h3⟩ => ?_
  rw [((mkP_PG _ K.fit).add r e0.2).unique (mkP_PG _ e0.2)] at h2
  obtain ⟨g', c2, e⟩ := own_some h2 (by decide)
  injection e with e1 e2 e3
  rw [e1] at h1 h2
  exact ⟨g', c', h1, H.row (star_good (rowR_good _ _ _ _ _) gA) h3 h2⟩
/-- Behind a page with a row more. -/
theorem f_add (g : Good Fr) {gp c : Nat} (K : WOk x) (hn : x.n < 1000000) (H : In w0 w (Wo bd bl bw R F G d h x gp c Fr)) (hr : RdV w C m r) (he : addE x.rows r = 0) :
    Calls Tryz.prog 78 #[pgv gp c, .slice C m cc] w fun e w' => ∃ g' c', e = .returned (.tuple #[pgv g' c', .int .i64 0]) ∧ (w'.cell? ⟨bw, 4, none⟩ = some (pgv gp c) ∧ w'.cell? ⟨bw, 5, none⟩ = some (.int .i64 x.n) ∧ w'.frozen? ⟨bw, 4, none⟩ = false ∧ w'.frozen? ⟨bw, 5, none⟩ = false) ∧
      In w0 ((w'.setCell ⟨bw, 4, none⟩ (pgv g' c')).setCell ⟨bw, 5, none⟩ (.int .i64 (x.n + 1))) (star (PL bd bl R F G d h) (star (WR bw bd bl ⟨x.file, x.n + 1, x.wrong, x.ended, x.rows ++ [r]⟩) Fr)) := by
  have gA : Good (star (blkR bw (wObj bd bl x (pgv gp c))) (star (PL bd bl R F G d h) Fr)) := star_good (blkR_good _ _) (star_good (PL_good _ _ _ _ _ _ _) g)
  refine (p_add_yes (cc := cc) gA H.swap K hr he).mono fun e w' hh => ?_
  obtain ⟨g', c', h1, h2⟩ := hh
  have gB : Good (pgR (pgv g' c') (x.rows ++ [r])) := rowR_good _ _ _ _ _
  have h3 : In w0 w' (star (blkR bw (wObj bd bl x (pgv gp c))) (star (pgR (pgv g' c') (x.rows ++ [r])) (star (PL bd bl R F G d h) Fr))) :=
    h2.assoc.right.assoc.imp fun S h => star_mono h (fun _ => id) (fun _ => star_comm)
  have hc := WR_cells h3
  refine ⟨g', c', h1, ⟨hc.2.2.2.2.1, hc.2.2.2.2.2.1, WR_free h3 4, WR_free h3 5⟩, ?_⟩
  have gC : Good (star (pgR (pgv g' c') (x.rows ++ [r])) (star (PL bd bl R F G d h) Fr)) := star_good gB (star_good (PL_good _ _ _ _ _ _ _) g)
  have h4 := (h3.put gC 4 (pgv g' c')).put gC 5 (.int .i64 (x.n + 1))
  have K' : WOk ⟨x.file, x.n + 1, x.wrong, x.ended, x.rows ++ [r]⟩ := by
    have e0 : mayE r = 0 ∧ usedN (x.rows ++ [r]) ≤ 256 := by
      unfold addE at he
      by_cases e : mayE r ≠ 0
      · rw [if_pos e] at he; exact absurd he e
      · rw [if_neg e] at he
        refine ⟨by simpa using e, ?_⟩
        split at he
        · cases he
        · omega
    refine ⟨fun q hq => ?_, e0.2, by have := K.num; dsimp only; omega, K.file⟩
    rcases List.mem_append.1 hq with hq | hq
    · exact K.ok q hq
    · rw [List.mem_singleton.1 hq]; exact (mayE_ok e0.1).1
  exact (WR_shut (x := ⟨x.file, x.n + 1, x.wrong, x.ended, x.rows ++ [r]⟩) K' h4).swap
def PutP (bw bd bl : Nat) (R : Int) (F : List Int) (G : Int) (d : Ds) (h : Int) (x : Ws) (r : List V) (w0 : World) (Fr : Res) (e : Ending) (w' : World) : Prop :=
  e = .returned (.int .i64 (x.putE R F d r)) ∧ In w0 w' (star (PL bd bl R F G (x.putD R F d r) h) (star (WR bw bd bl (x.putX R F d r)) Fr))
theorem put_a (g : Good Fr) (H : In w0 w (star (PL bd bl R F G d h) (star (WR bw bd bl x) Fr))) (hx : x.ended = true) :
    Calls Tryz.prog 38 #[wp_ bw, .slice C m cc] w (PutP bw bd bl R F G d h x r w0 Fr) := by
  have es : x.stop r = 6 := if_pos hx
  have e0 : PutP bw bd bl R F G d h x r w0 Fr (.returned (.int .i64 6)) w := by
    unfold PutP Ws.putE Ws.putD Ws.putX
    rw [es]
    exact ⟨rfl, H⟩
  have CC := w_closed (star_good (PL_good _ _ _ _ _ _ _) g) H.swap
  rw [hx] at CC
  have CC := Lib.hid CC
  have E0 := Lib.hid e0
  clear H hx es e0
  go_enter Tryz.func38, Tryz.ntmps38
  go_wp2_with (go_at_call 77; (with_reducible refine CC.out.mono ?_); rintro e w1 ⟨rfl, rfl⟩)
  go_ret
  exact E0.out
theorem put_b (g : Good Fr) (H : In w0 w (star (PL bd bl R F G d h) (star (WR bw bd bl x) Fr))) (hx : x.ended = false) (hw : x.wrong ≠ 0) :
    Calls Tryz.prog 38 #[wp_ bw, .slice C m cc] w (PutP bw bd bl R F G d h x r w0 Fr) := by
  have es : x.stop r = x.wrong := by unfold Ws.stop; rw [hx, if_neg (by decide), if_pos hw]
  have e0 : PutP bw bd bl R F G d h x r w0 Fr (.returned (.int .i64 x.wrong)) w := by
    unfold PutP Ws.putE Ws.putD Ws.putX
    rw [es]
    simp only [if_pos hw]
    exact ⟨by trivial, H⟩
  have CC := w_closed (star_good (PL_good _ _ _ _ _ _ _) g) H.swap
  rw [hx] at CC
  have CC := Lib.hid CC
  have E0 := Lib.hid e0
  obtain ⟨gp, c, K, H1⟩ := Wo_open H
  obtain ⟨c0, c1, c2, c3, c4, c5, c6, c7⟩ := WR_cells H1
  have hne : (x.wrong != 0) = true := by simpa using hw
  obtain ⟨file, n, wrong, ended, rows⟩ := x
  dsimp only at c6 hne
  clear H H1 hx es e0 K c7 hw
  go_enter Tryz.func38, Tryz.ntmps38
  go_wp2_with (go_at_call 77; (with_reducible refine CC.out.mono ?_); rintro e w1 ⟨rfl, rfl⟩)
  go_ret
  exact E0.out
theorem put_c (g : Good Fr) (H : In w0 w (star (PL bd bl R F G d h) (star (WR bw bd bl x) Fr))) (HR : RdV w C m r) (hx : x.ended = false) (hw : x.wrong = 0) (hm : mayE r ≠ 0) :
    Calls Tryz.prog 38 #[wp_ bw, .slice C m cc] w (PutP bw bd bl R F G d h x r w0 Fr) := by
  have es : x.stop r = mayE r := by unfold Ws.stop; rw [hx, if_neg (by decide), hw, if_neg (by decide)]
  have ea : addE x.rows r = mayE r := if_pos hm
  have e0 : ∀ W, Below w.heap.size w W → PutP bw bd bl R F G d h x r w0 Fr (.returned (.int .i64 (mayE r))) W := by
    intro W b
    unfold PutP Ws.putE Ws.putD Ws.putX
    rw [es]
    simp only [if_pos hm]
    exact ⟨by trivial, H.below (star_good (PL_good _ _ _ _ _ _ _) (star_good (WR_good _ _ _ _) g)) b⟩
  have CC := w_closed (star_good (PL_good _ _ _ _ _ _ _) g) H.swap
  rw [hx] at CC
  have CC := Lib.hid CC
  have E0 := Lib.hid e0
  obtain ⟨gp, c, K, H1⟩ := Wo_open H
  have CA := p_add_no (cc := cc) H1.swap K HR (by rw [ea]; exact hm)
  rw [ea] at CA
  have CA := Lib.hid CA
  obtain ⟨c0, c1, c2, c3, c4, c5, c6, c7⟩ := WR_cells H1
  have hne : (x.wrong != 0) = false := by simpa using hw
  have hm1 : (mayE r != 0) = true := by simpa using hm
  have hm2 : (mayE r == 2) = false := by
    unfold mayE
    split
    · rfl
    · split
      · rfl
      · rfl
  obtain ⟨E, hE⟩ : ∃ E, E = mayE r := ⟨_, rfl⟩
  rw [← hE] at E0 CA hm1 hm2
  obtain ⟨file, n, wrong, ended, rows⟩ := x
  dsimp only at c4 c6 hne
  clear H H1 hx es e0 K c7 hw HR hm ea hE
  go_enter Tryz.func38, Tryz.ntmps38
  go_wp2_with (first
    | (go_at_call 77; (with_reducible refine CC.out.mono ?_); rintro e w1 ⟨rfl, rfl⟩)
    | (go_at_call 78; (with_reducible refine CA.out.mono ?_); rintro e w2 ⟨rfl, b2⟩; have B2 := Lib.hid b2; clear b2))
  go_ret
  exact E0.out _ B2.out
theorem put_d (g : Good Fr) (H : In w0 w (star (PL bd bl R F G d h) (star (WR bw bd bl x) Fr))) (HR : RdV w C m r) (hn : x.n < 1000000) (hx : x.ended = false) (hw : x.wrong = 0) (hm : mayE r = 0) (hu : usedN (x.rows ++ [r]) ≤ 256) :
    Calls Tryz.prog 38 #[wp_ bw, .slice C m cc] w (PutP bw bd bl R F G d h x r w0 Fr) := by
  have es : x.stop r = 0 := by unfold Ws.stop; rw [hx, if_neg (by decide), hw, if_neg (by decide)]; exact hm
  have ea : addE x.rows r = 0 := by unfold addE; rw [if_neg (by rw [hm]; decide), if_neg (by omega)]
  have e0 : ∀ W, In w0 W (star (PL bd bl R F G d h) (star (WR bw bd bl ⟨x.file, x.n + 1, x.wrong, x.ended, x.rows ++ [r]⟩) Fr)) → PutP bw bd bl R F G d h x r w0 Fr (.returned (.int .i64 0)) W := by
    intro W b
    unfold PutP Ws.putE Ws.putD Ws.putX
    rw [es]
    have hu' : ¬ 256 < usedN (x.rows ++ [r]) := by omega
    simp only [if_neg hu', if_neg (show ¬ (0 : Int) ≠ 0 by decide)]
    exact ⟨by trivial, b⟩
  have CC := w_closed (star_good (PL_good _ _ _ _ _ _ _) g) H.swap
  rw [hx] at CC
  have CC := Lib.hid CC
  have E0 := Lib.hid e0
  obtain ⟨gp, c, K, H1⟩ := Wo_open H
  have hb := K.num
  have CA := Lib.hid (f_add (cc := cc) g K hn H1 HR ea)
  obtain ⟨c0, c1, c2, c3, c4, c5, c6, c7⟩ := WR_cells H1
  have hne : (x.wrong != 0) = false := by simpa using hw
  obtain ⟨file, n, wrong, ended, rows⟩ := x
  dsimp only at c4 c6 hne hb E0 CA
  clear H H1 hx es e0 K c7 hw HR hm ea hn hu
  go_enter Tryz.func38, Tryz.ntmps38
  go_wp2_with (first
    | (go_at_call 77; (with_reducible refine CC.out.mono ?_); rintro e w1 ⟨rfl, rfl⟩)
    | (go_at_call 78; (with_reducible refine CA.out.mono ?_); rintro e w2 ⟨g', c', rfl, ⟨k4, k5, f4, f5⟩, V⟩; have V2 := Lib.hid V; clear V CA))
  go_ret
  exact E0.out _ V2.out
theorem put_e (g : Good Fr) (H : In w0 w (star (PL bd bl R F G d h) (star (WR bw bd bl x) Fr))) (HR : RdV w C m r) (hd : d.deeds ≤ 1000000000) (hx : x.ended = false) (hw : x.wrong = 0) (hm : mayE r = 0) (hu : 256 < usedN (x.rows ++ [r])) (hf : x.flushE R F d ≠ 0) :
    Calls Tryz.prog 38 #[wp_ bw, .slice C m cc] w (PutP bw bd bl R F G d h x r w0 Fr) := by
  have es : x.stop r = 0 := by unfold Ws.stop; rw [hx, if_neg (by decide), hw, if_neg (by decide)]; exact hm
  have ea : addE x.rows r = 2 := by unfold addE; rw [if_neg (by rw [hm]; decide), if_pos hu]
  have e0 : ∀ W, In w0 W (star (PL bd bl R F G (x.flushD R F d) h) (star (WR bw bd bl (x.flushX R F d)) Fr)) → PutP bw bd bl R F G d h x r w0 Fr (.returned (.int .i64 (x.flushE R F d))) W := by
    intro W b
    unfold PutP Ws.putE Ws.putD Ws.putX
    rw [es]
    simp only [if_pos hu, if_neg (show ¬ (0 : Int) ≠ 0 by decide), if_pos hf]
    exact ⟨by trivial, b⟩
  have gW : Good (star (PL bd bl R F G d h) (star (WR bw bd bl x) Fr)) := star_good (PL_good _ _ _ _ _ _ _) (star_good (WR_good _ _ _ _) g)
  have CC := w_closed (star_good (PL_good _ _ _ _ _ _ _) g) H.swap
  rw [hx] at CC
  have CC := Lib.hid CC
  have E0 := Lib.hid e0
  have CF := Lib.hid (fun W (b : Below w.heap.size w W) => w_flush g (H.below gW b) hd)
  obtain ⟨gp, c, K, H1⟩ := Wo_open H
  have CA := p_add_no (cc := cc) H1.swap K HR (by rw [ea]; decide)
  rw [ea] at CA
  have CA := Lib.hid CA
  obtain ⟨c0, c1, c2, c3, c4, c5, c6, c7⟩ := WR_cells H1
  have hne : (x.wrong != 0) = false := by simpa using hw
  have hf1 : (x.flushE R F d != 0) = true := by simpa using hf
  obtain ⟨E, hE⟩ : ∃ E, E = x.flushE R F d := ⟨_, rfl⟩
  rw [← hE] at E0 CF hf1
  obtain ⟨file, n, wrong, ended, rows⟩ := x
  dsimp only at c4 c6 hne
  clear H H1 hx es e0 K c7 hw HR hm ea hu hf hE gW
  go_enter Tryz.func38, Tryz.ntmps38
  go_wp2_with (first
    | (go_at_call 77; (with_reducible refine CC.out.mono ?_); rintro e w1 ⟨rfl, rfl⟩)
    | (go_at_call 78; (with_reducible refine CA.out.mono ?_); rintro e w2 ⟨rfl, b2⟩; have B2 := Lib.hid b2; clear b2 CA)
    | (go_at_call 79; (with_reducible refine (CF.out _ B2.out).mono ?_); rintro e w3 ⟨rfl, V⟩; have V3 := Lib.hid V; clear V CF))
  go_ret
  exact E0.out _ V3.out
theorem put_f (g : Good Fr) (H : In w0 w (star (PL bd bl R F G d h) (star (WR bw bd bl x) Fr))) (HR : ∀ W, In w0 W Fr → RdV W C m r) (hd : d.deeds ≤ 1000000000) (hn : x.n < 1000000) (hx : x.ended = false) (hw : x.wrong = 0) (hm : mayE r = 0) (hu : 256 < usedN (x.rows ++ [r])) (hf : x.flushE R F d = 0) :
    Calls Tryz.prog 38 #[wp_ bw, .slice C m cc] w (PutP bw bd bl R F G d h x r w0 Fr) := by
  have es : x.stop r = 0 := by unfold Ws.stop; rw [hx, if_neg (by decide), hw, if_neg (by decide)]; exact hm
  have ea : addE x.rows r = 2 := by unfold addE; rw [if_neg (by rw [hm]; decide), if_pos hu]
  have ez : x.flushX R F d = ⟨x.file, x.n, 0, x.ended, []⟩ := by unfold Ws.flushX; rw [hf]
  have eb : addE ([] : List (List V)) r = 0 := by
    unfold addE
    rw [if_neg (by rw [hm]; decide), if_neg]
    have := used_one (mayE_ok hm).2
    exact Nat.not_lt.2 this
  have e0 : ∀ W, In w0 W (star (PL bd bl R F G (x.flushD R F d) h) (star (WR bw bd bl ⟨x.file, x.n + 1, 0, x.ended, [] ++ [r]⟩) Fr)) → PutP bw bd bl R F G d h x r w0 Fr (.returned (.int .i64 0)) W := by
    intro W b
    unfold PutP Ws.putE Ws.putD Ws.putX
    rw [es]
    simp only [if_pos hu, if_neg (show ¬ (0 : Int) ≠ 0 by decide), if_neg (show ¬ x.flushE R F d ≠ 0 by simpa using hf)]
    exact ⟨by rw [hf], b⟩
  have gW : Good (star (PL bd bl R F G d h) (star (WR bw bd bl x) Fr)) := star_good (PL_good _ _ _ _ _ _ _) (star_good (WR_good _ _ _ _) g)
  have CC := w_closed (star_good (PL_good _ _ _ _ _ _ _) g) H.swap
  rw [hx] at CC
  have CC := Lib.hid CC
  have E0 := Lib.hid e0
  have CF := (fun W (b : Below w.heap.size w W) => w_flush g (H.below gW b) hd)
  rw [hf, ez] at CF
  have CF := Lib.hid CF
  obtain ⟨gp, c, K, H1⟩ := Wo_open H
  have hb := K.num
  have CA := p_add_no (cc := cc) H1.swap K (HR _ H.right.right) (by rw [ea]; decide)
  rw [ea] at CA
  have CA := Lib.hid CA
  have CB := Lib.hid (fun W gp c (V : In w0 W (Wo bd bl bw R F G (x.flushD R F d) h ⟨x.file, x.n, 0, x.ended, []⟩ gp c Fr)) => f_add (x := ⟨x.file, x.n, 0, x.ended, []⟩) (cc := cc) g (WOk.none K.num K.file) hn V (HR _ V.right.right.right) eb)
  obtain ⟨c0, c1, c2, c3, c4, c5, c6, c7⟩ := WR_cells H1
  have hne : (x.wrong != 0) = false := by simpa using hw
  obtain ⟨file, n, wrong, ended, rows⟩ := x
  dsimp only at c4 c6 hne hb E0 CB CF
  clear H H1 hx es e0 K c7 hw HR hm ea hu hf gW ez eb hn
  go_enter Tryz.func38, Tryz.ntmps38
  go_wp2_with (first
    | (go_at_call 77; (with_reducible refine CC.out.mono ?_); rintro e w1 ⟨rfl, rfl⟩)
    | (go_at_call 79; (with_reducible refine (CF.out _ B2.out).mono ?_); rintro e w3 ⟨rfl, V⟩; obtain ⟨gp2, cp2, _, V3⟩ := Wo_open V; obtain ⟨_, _, _, _, p4, _, _, _⟩ := WR_cells V3; have V3 := Lib.hid V3; clear V CF)
    | (go_at_call 78; (with_reducible refine CA.out.mono ?_); rintro e w2 ⟨rfl, b2⟩; have B2 := Lib.hid b2; clear b2 CA)
    | (go_at_call 78; (with_reducible refine (CB.out _ _ _ V3.out).mono ?_); rintro e w4 ⟨g', c', rfl, ⟨k4, k5, f4, f5⟩, V⟩; have V4 := Lib.hid V; clear V CB))
  go_ret
  exact E0.out _ V4.out
theorem w_put (g : Good Fr) (H : In w0 w (star (PL bd bl R F G d h) (star (WR bw bd bl x) Fr))) (HR : ∀ W, In w0 W Fr → RdV W C m r) (hd : d.deeds ≤ 1000000000) (hn : x.n < 1000000) :
    Calls Tryz.prog 38 #[wp_ bw, .slice C m cc] w (PutP bw bd bl R F G d h x r w0 Fr) := by
  have hr := HR _ H.right.right
  cases hx : x.ended with
  | true => exact put_a g H hx
  | false =>
    by_cases hw : x.wrong = 0
    · by_cases hm : mayE r = 0
      · by_cases hu : 256 < usedN (x.rows ++ [r])
        · by_cases hf : x.flushE R F d = 0
          · exact put_f g H HR hd hn hx hw hm hu hf
          · exact put_e g H hr hd hx hw hm hu hf
        · exact put_d g H hr hn hx hw hm (by omega)
      · exact put_c g H hr hx hw hm
    · exact put_b g H hx hw
end
end Go.Proofs.YtkbapoeilcapfaaGreat

/- spill: a writer's end. -/
namespace Go.Proofs.YtkbapoeilcapfaaGreat
open Go.RowKit Go.Maps
set_option linter.unusedVariables false
set_option linter.unusedSimpArgs false
set_option maxRecDepth 6000

section
variable {w0 w : World} {bd bl bw : Nat} {R : Int} {F : List Int} {G : Int} {d : Ds} {h : Int} {x : Ws} {Fr A : Res}
def Ws.endD (d : Ds) (x : Ws) : Ds := if x.wrong ≠ 0 then d.del x.file else d
def Ws.endX (x : Ws) : Ws := ⟨x.file, x.n, x.wrong, true, x.rows⟩
/-- The three steps of a writer's end. -/
structure EndK (w0 w : World) (bd bl bw : Nat) (R : Int) (F : List Int) (G : Int) (d : Ds) (h : Int) (x : Ws) (Fr : Res) : Prop where
  f7 : w.frozen? ⟨bw, 7, none⟩ = false
  c7 : w.cell? ⟨bw, 7, none⟩ = some (.bool x.ended)
  c0 : (w.setCell ⟨bw, 7, none⟩ (.bool true)).cell? ⟨bw, 0, none⟩ = some (dp bd)
  c1 : (w.setCell ⟨bw, 7, none⟩ (.bool true)).cell? ⟨bw, 1, none⟩ = some (lp bl)
  c2 : (w.setCell ⟨bw, 7, none⟩ (.bool true)).cell? ⟨bw, 2, none⟩ = some (.int .i64 0)
  give : Calls Tryz.prog 75 #[pv bd bl] (w.setCell ⟨bw, 7, none⟩ (.bool true)) fun e w1 => e = .returned (.tuple #[]) ∧ In w0 w1 (star (PL bd bl R F G d (giveH h)) (star (WR bw bd bl x.endX) Fr)) ∧
    w1.cell? ⟨bw, 0, none⟩ = some (dp bd) ∧ w1.cell? ⟨bw, 3, none⟩ = some (.int .i64 x.file) ∧ w1.cell? ⟨bw, 6, none⟩ = some (.int .i64 x.wrong)
theorem WR_at (H : In w0 w (star (PL bd bl R F G d h) (star (WR bw bd bl x) Fr))) : w.cell? ⟨bw, 0, none⟩ = some (dp bd) ∧ w.cell? ⟨bw, 3, none⟩ = some (.int .i64 x.file) ∧ w.cell? ⟨bw, 6, none⟩ = some (.int .i64 x.wrong) := by
  obtain ⟨gp, c, K, H1⟩ := Wo_open H
  obtain ⟨c0, c1, c2, c3, c4, c5, c6, c7⟩ := WR_cells H1
  exact ⟨c0, c3, c6⟩
theorem WR_end (g : Good Fr) (H : In w0 w (star (PL bd bl R F G d h) (star (WR bw bd bl x) Fr))) : In w0 (w.setCell ⟨bw, 7, none⟩ (.bool true)) (star (PL bd bl R F G d h) (star (WR bw bd bl x.endX) Fr)) := by
  obtain ⟨gp, c, K, H1⟩ := Wo_open H
  have gC : Good (star (pgR (pgv gp c) x.rows) (star (PL bd bl R F G d h) Fr)) := star_good (rowR_good _ _ _ _ _) (star_good (PL_good _ _ _ _ _ _ _) g)
  exact (WR_shut (x := x.endX) ⟨K.ok, K.fit, K.num, K.file⟩ (H1.put gC 7 (.bool true))).swap
theorem endK (g : Good Fr) (H : In w0 w (star (PL bd bl R F G d h) (star (WR bw bd bl x) Fr))) : EndK w0 w bd bl bw R F G d h x Fr := by
  obtain ⟨gp, c, K, H1⟩ := Wo_open H
  obtain ⟨c0, c1, c2, c3, c4, c5, c6, c7⟩ := WR_cells H1
  have H2 := WR_end g H
  obtain ⟨gp2, cp2, K2, H3⟩ := Wo_open H2
  obtain ⟨k0, k1, k2, k3, k4, k5, k6, k7⟩ := WR_cells H3
  exact ⟨WR_free H1 7, c7, k0, k1, k2, (s_give (star_good (WR_good _ _ _ _) g) H2).mono fun e w1 hh => ⟨hh.1, hh.2, WR_at (x := x.endX) hh.2⟩⟩
def EndP (bw bd bl : Nat) (R : Int) (F : List Int) (G : Int) (d : Ds) (h : Int) (x : Ws) (w0 : World) (Fr : Res) (e : Ending) (w' : World) : Prop :=
  e = .returned (.tuple #[]) ∧ In w0 w' (star (PL bd bl R F G (x.endD d) (giveH h)) (star (WR bw bd bl x.endX) Fr))
theorem w_end0 (g : Good Fr) (H : In w0 w (star (PL bd bl R F G d h) (star (WR bw bd bl x) Fr))) (hw : x.wrong = 0) :
    Calls Tryz.prog 80 #[wp_ bw] w (EndP bw bd bl R F G d h x w0 Fr) := by
  obtain ⟨f7, c7, c0, c1, c2, CG⟩ := endK g H
  have CG := Lib.hid CG
  have e0 : ∀ W, In w0 W (star (PL bd bl R F G d (giveH h)) (star (WR bw bd bl x.endX) Fr)) → EndP bw bd bl R F G d h x w0 Fr (.returned (.tuple #[])) W := by
    intro W b
    unfold EndP Ws.endD
    rw [if_neg (by simpa using hw)]
    exact ⟨rfl, b⟩
  have E0 := Lib.hid e0
  have hne : (x.wrong != 0) = false := by simpa using hw
  obtain ⟨file, n, wrong, ended, rows⟩ := x
  dsimp only at hne c7 CG
  clear H hw e0
  go_enter Tryz.func80, Tryz.ntmps80
  go_wp2_with (go_at_call 75; (with_reducible refine CG.out.mono ?_); rintro e w1 ⟨rfl, V, k0, k3, k6⟩; have V1 := Lib.hid V; clear V CG)
  go_end0
  exact E0.out _ V1.out
theorem w_end1 (g : Good Fr) (H : In w0 w (star (PL bd bl R F G d h) (star (WR bw bd bl x) Fr))) (hw : x.wrong ≠ 0) :
    Calls Tryz.prog 80 #[wp_ bw] w (EndP bw bd bl R F G d h x w0 Fr) := by
  obtain ⟨f7, c7, c0, c1, c2, CG⟩ := endK g H
  have CG := Lib.hid CG
  have hf := (WR_ok H.swap).file
  have e0 : ∀ W, In w0 W (star (PL bd bl R F G (d.del x.file) (giveH h)) (star (WR bw bd bl x.endX) Fr)) → EndP bw bd bl R F G d h x w0 Fr (.returned (.tuple #[])) W := by
    intro W b
    unfold EndP Ws.endD
    rw [if_pos hw]
    exact ⟨rfl, b⟩
  have E0 := Lib.hid e0
  have gW : Good (star (PL bd bl R F G d (giveH h)) (star (WR bw bd bl x.endX) Fr)) := star_good (PL_good _ _ _ _ _ _ _) (star_good (WR_good _ _ _ _) g)
  have CD := Lib.hid (fun W (V : In w0 W (star (PL bd bl R F G d (giveH h)) (star (WR bw bd bl x.endX) Fr))) => (s_del (star_good (WR_good _ _ _ _) g) (in_drew gW V) hf).mono fun (e : Ending) (w' : World) hh => show e = .returned (.int .i64 (d.delE x.file)) ∧ In w0 w' (star (PL bd bl R F G (d.del x.file) (giveH h)) (star (WR bw bd bl x.endX) Fr)) ∧ w'.cell? ⟨bw, 0, none⟩ = some (dp bd) ∧ w'.cell? ⟨bw, 3, none⟩ = some (.int .i64 x.file) from ⟨hh.1, hh.2, (WR_at (x := x.endX) hh.2).1, (WR_at (x := x.endX) hh.2).2.1⟩)
  have hne : (x.wrong != 0) = true := by simpa using hw
  obtain ⟨E, hE⟩ : ∃ E, E = d.delE x.file := ⟨_, rfl⟩
  rw [← hE] at CD
  obtain ⟨file, n, wrong, ended, rows⟩ := x
  dsimp only at hne c7 CG CD E0
  clear H hw e0 gW hf hE
  go_enter Tryz.func80, Tryz.ntmps80
  go_wp2_with (go_at_call 75; (with_reducible refine CG.out.mono ?_); rintro e w1 ⟨rfl, V, k0, k3, k6⟩; have V1 := Lib.hid V; clear V CG)
  go_region_held3 (fun w' => w'.cell? ⟨bw, 0, none⟩ = some (dp bd) ∧ w'.cell? ⟨bw, 3, none⟩ = some (.int .i64 file)) (first | go_keep | (refine ⟨?_, ?_⟩ <;> assumption)) (first
    | (go_at_call 57; (with_reducible refine (CD.out _ V1.out).mono ?_); rintro e w2 ⟨rfl, V, s0, s3⟩; have V2 := Lib.hid V; clear V))
  all_goals go_wp2
  all_goals go_end0
  all_goals exact E0.out _ V2.out
theorem w_end (g : Good Fr) (H : In w0 w (star (PL bd bl R F G d h) (star (WR bw bd bl x) Fr))) :
    Calls Tryz.prog 80 #[wp_ bw] w (EndP bw bd bl R F G d h x w0 Fr) := by
  by_cases hw : x.wrong = 0
  · exact w_end0 g H hw
  · exact w_end1 g H hw
theorem w_dend0 (u : FrameMode) (g : Good Fr) (H : In w0 w (star (PL bd bl R F G d h) (star (WR bw bd bl x) Fr))) (hw : x.wrong = 0) :
    CallsD Tryz.prog 80 #[wp_ bw] u w fun e u' w' => u' = u ∧ EndP bw bd bl R F G d h x w0 Fr e w' := by
  obtain ⟨f7, c7, c0, c1, c2, CG⟩ := endK g H
  have CG := Lib.hid CG
  have e0 : ∀ W, In w0 W (star (PL bd bl R F G d (giveH h)) (star (WR bw bd bl x.endX) Fr)) → EndP bw bd bl R F G d h x w0 Fr (.returned (.tuple #[])) W := by
    intro W b
    unfold EndP Ws.endD
    rw [if_neg (by simpa using hw)]
    exact ⟨rfl, b⟩
  have E0 := Lib.hid e0
  have hne : (x.wrong != 0) = false := by simpa using hw
  obtain ⟨file, n, wrong, ended, rows⟩ := x
  dsimp only at hne c7 CG
  clear H hw e0
  go_enter_d Tryz.func80, Tryz.ntmps80
  go_wp2_with (go_at_call 75; (with_reducible refine CG.out.mono ?_); rintro e w1 ⟨rfl, V, k0, k3, k6⟩; have V1 := Lib.hid V; clear V CG)
  go_end0
  exact E0.out _ V1.out
theorem w_dend1 (u : FrameMode) (g : Good Fr) (H : In w0 w (star (PL bd bl R F G d h) (star (WR bw bd bl x) Fr))) (hw : x.wrong ≠ 0) :
    CallsD Tryz.prog 80 #[wp_ bw] u w fun e u' w' => u' = u ∧ EndP bw bd bl R F G d h x w0 Fr e w' := by
  obtain ⟨f7, c7, c0, c1, c2, CG⟩ := endK g H
  have CG := Lib.hid CG
  have hf := (WR_ok H.swap).file
  have e0 : ∀ W, In w0 W (star (PL bd bl R F G (d.del x.file) (giveH h)) (star (WR bw bd bl x.endX) Fr)) → EndP bw bd bl R F G d h x w0 Fr (.returned (.tuple #[])) W := by
    intro W b
    unfold EndP Ws.endD
    rw [if_pos hw]
    exact ⟨rfl, b⟩
  have E0 := Lib.hid e0
  have gW : Good (star (PL bd bl R F G d (giveH h)) (star (WR bw bd bl x.endX) Fr)) := star_good (PL_good _ _ _ _ _ _ _) (star_good (WR_good _ _ _ _) g)
  have CD := Lib.hid (fun W (V : In w0 W (star (PL bd bl R F G d (giveH h)) (star (WR bw bd bl x.endX) Fr))) => (s_del (star_good (WR_good _ _ _ _) g) (in_drew gW V) hf).mono fun (e : Ending) (w' : World) hh => show e = .returned (.int .i64 (d.delE x.file)) ∧ In w0 w' (star (PL bd bl R F G (d.del x.file) (giveH h)) (star (WR bw bd bl x.endX) Fr)) ∧ w'.cell? ⟨bw, 0, none⟩ = some (dp bd) ∧ w'.cell? ⟨bw, 3, none⟩ = some (.int .i64 x.file) from ⟨hh.1, hh.2, (WR_at (x := x.endX) hh.2).1, (WR_at (x := x.endX) hh.2).2.1⟩)
  have hne : (x.wrong != 0) = true := by simpa using hw
  obtain ⟨E, hE⟩ : ∃ E, E = d.delE x.file := ⟨_, rfl⟩
  rw [← hE] at CD
  obtain ⟨file, n, wrong, ended, rows⟩ := x
  dsimp only at hne c7 CG CD E0
  clear H hw e0 gW hf hE
  go_enter_d Tryz.func80, Tryz.ntmps80
  go_wp2_with (go_at_call 75; (with_reducible refine CG.out.mono ?_); rintro e w1 ⟨rfl, V, k0, k3, k6⟩; have V1 := Lib.hid V; clear V CG)
  go_region_held3 (fun w' => w'.cell? ⟨bw, 0, none⟩ = some (dp bd) ∧ w'.cell? ⟨bw, 3, none⟩ = some (.int .i64 file)) (first | go_keep | (refine ⟨?_, ?_⟩ <;> assumption)) (first
    | (go_at_call 57; (with_reducible refine (CD.out _ V1.out).mono ?_); rintro e w2 ⟨rfl, V, s0, s3⟩; have V2 := Lib.hid V; clear V))
  all_goals go_wp2
  all_goals go_end0
  all_goals exact E0.out _ V2.out
theorem w_end_d (u : FrameMode) (g : Good Fr) (H : In w0 w (star (PL bd bl R F G d h) (star (WR bw bd bl x) Fr))) :
    CallsD Tryz.prog 80 #[wp_ bw] u w fun e u' w' => u' = u ∧ EndP bw bd bl R F G d h x w0 Fr e w' := by
  by_cases hw : x.wrong = 0
  · exact w_dend0 u g H hw
  · exact w_dend1 u g H hw
end
end Go.Proofs.YtkbapoeilcapfaaGreat

/- spill: a writer's Done and Drop; a new writer. -/
namespace Go.Proofs.YtkbapoeilcapfaaGreat
open Go.RowKit Go.Maps
set_option linter.unusedVariables false
set_option linter.unusedSimpArgs false
set_option maxRecDepth 6000

section
variable {w0 w : World} {bd bl bw : Nat} {R : Int} {F : List Int} {G : Int} {d : Ds} {h : Int} {x : Ws} {Fr A : Res}
def DoneP (bw bd bl : Nat) (R : Int) (F : List Int) (G : Int) (d : Ds) (h : Int) (x : Ws) (w0 : World) (Fr : Res) (e : Ending) (w' : World) : Prop :=
  e = .returned (.tuple #[.int .i64 (x.doneN R F d), .int .i64 (x.doneE R F d)]) ∧ In w0 w' (star (PL bd bl R F G (x.doneD R F d) (x.endH h)) (star (WR bw bd bl (x.doneX R F d)) Fr))
theorem done_a (g : Good Fr) (H : In w0 w (star (PL bd bl R F G d h) (star (WR bw bd bl x) Fr))) (hx : x.ended = true) :
    Calls Tryz.prog 40 #[wp_ bw] w (DoneP bw bd bl R F G d h x w0 Fr) := by
  have e0 : DoneP bw bd bl R F G d h x w0 Fr (.returned (.tuple #[.int .i64 0, .int .i64 6])) w := by
    unfold DoneP Ws.doneN Ws.doneE Ws.doneD Ws.doneX Ws.endH
    rw [if_pos hx, if_pos hx, if_pos hx, if_pos hx, if_neg (by decide)]
    exact ⟨rfl, H⟩
  have CC := w_closed (star_good (PL_good _ _ _ _ _ _ _) g) H.swap
  rw [hx] at CC
  have CC := Lib.hid CC
  have E0 := Lib.hid e0
  clear H hx e0
  go_enter_defers Tryz.func40, Tryz.ntmps40
  go_wp2_with (go_at_call 77; (with_reducible refine CC.out.mono ?_); rintro e w1 ⟨rfl, rfl⟩)
  refine ⟨_, results_tmp2 rfl _ _ _, ?_⟩
  exact E0.out
theorem done_b (g : Good Fr) (H : In w0 w (star (PL bd bl R F G d h) (star (WR bw bd bl x) Fr))) (hd : d.deeds ≤ 1000000000) (hx : x.ended = false) :
    Calls Tryz.prog 40 #[wp_ bw] w (DoneP bw bd bl R F G d h x w0 Fr) := by
  have hxn : ¬ x.ended = true := by rw [hx]; decide
  have CC := w_closed (star_good (PL_good _ _ _ _ _ _ _) g) H.swap
  rw [hx] at CC
  have CC := Lib.hid CC
  have CF := Lib.hid ((w_flush g H hd).mono fun (e : Ending) (w' : World) hh => show e = .returned (.int .i64 (x.flushE R F d)) ∧ In w0 w' (star (PL bd bl R F G (x.flushD R F d) h) (star (WR bw bd bl (x.flushX R F d)) Fr)) ∧ w'.cell? ⟨bw, 3, none⟩ = some (.int .i64 x.file) from ⟨hh.1, hh.2, (WR_at hh.2).2.1⟩)
  have CD := Lib.hid (fun W u (V : In w0 W (star (PL bd bl R F G (x.flushD R F d) h) (star (WR bw bd bl (x.flushX R F d)) Fr))) => w_end_d u g V)
  by_cases hE : x.flushE R F d = 0
  · have e0 : ∀ e' W, EndP bw bd bl R F G (x.flushD R F d) h (x.flushX R F d) w0 Fr e' W → DoneP bw bd bl R F G d h x w0 Fr (.returned (.tuple #[.int .i64 x.file, .int .i64 0])) W := by
      intro e' W hh
      unfold DoneP Ws.doneN Ws.doneE Ws.doneD Ws.doneX Ws.endH
      rw [if_neg hxn, if_neg hxn, if_neg hxn, if_neg hxn, if_pos hE, if_pos hE, hE]
      have h2 := hh.2
      have ee : (x.flushX R F d).endX = ⟨x.file, x.n, 0, true, []⟩ := by unfold Ws.endX Ws.flushX; rw [hE]
      have ed : (x.flushX R F d).endD (x.flushD R F d) = x.flushD R F d := if_neg (show ¬ x.flushE R F d ≠ 0 by simpa using hE)
      rw [ee, ed] at h2
      exact ⟨rfl, h2⟩
    have E0 := Lib.hid e0
    rw [hE] at CF
    clear H e0 hE hx hxn
    obtain ⟨file, n, wrong, ended, rows⟩ := x
    dsimp only at CF E0
    go_enter_defers Tryz.func40, Tryz.ntmps40
    go_wp2_with (first
      | (go_at_call 77; (with_reducible refine CC.out.mono ?_); rintro e w1 ⟨rfl, rfl⟩)
      | (go_at_call 79; (with_reducible refine CF.out.mono ?_); rintro e w2 ⟨rfl, V, c3⟩; have V2 := Lib.hid V; clear V CF))
    refine leaves_cons (f := 80) (args := #[wp_ bw]) (by simp) (by simp [go_sem]) ?_
    refine (CD.out _ .returning V2.out).mono ?_
    rintro e u' w3 ⟨rfl, P⟩
    have hP := E0.out _ _ P
    obtain ⟨he, _⟩ := P
    subst he
    refine ⟨_, results_tmp2 rfl _ _ _, ?_⟩
    exact hP
  · have e0 : ∀ e' W, EndP bw bd bl R F G (x.flushD R F d) h (x.flushX R F d) w0 Fr e' W → DoneP bw bd bl R F G d h x w0 Fr (.returned (.tuple #[.int .i64 0, .int .i64 (x.flushE R F d)])) W := by
      intro e' W hh
      unfold DoneP Ws.doneN Ws.doneE Ws.doneD Ws.doneX Ws.endH
      rw [if_neg hxn, if_neg hxn, if_neg hxn, if_neg hxn, if_neg hE, if_neg hE]
      have h2 := hh.2
      have ed : (x.flushX R F d).endD (x.flushD R F d) = (x.flushD R F d).del x.file := if_pos (show x.flushE R F d ≠ 0 from hE)
      rw [ed] at h2
      exact ⟨rfl, h2⟩
    have E0 := Lib.hid e0
    have hE1 : (x.flushE R F d != 0) = true := by simpa using hE
    obtain ⟨E, hEE⟩ : ∃ E, E = x.flushE R F d := ⟨_, rfl⟩
    rw [← hEE] at CF E0 hE1
    clear H e0 hE hx hxn hEE
    obtain ⟨file, n, wrong, ended, rows⟩ := x
    dsimp only at CF E0
    go_enter_defers Tryz.func40, Tryz.ntmps40
    go_wp2_with (first
      | (go_at_call 77; (with_reducible refine CC.out.mono ?_); rintro e w1 ⟨rfl, rfl⟩)
      | (go_at_call 79; (with_reducible refine CF.out.mono ?_); rintro e w2 ⟨rfl, V, c3⟩; have V2 := Lib.hid V; clear V CF))
    refine leaves_cons (f := 80) (args := #[wp_ bw]) (by simp) (by simp [go_sem]) ?_
    refine (CD.out _ .returning V2.out).mono ?_
    rintro e u' w3 ⟨rfl, P⟩
    have hP := E0.out _ _ P
    obtain ⟨he, _⟩ := P
    subst he
    refine ⟨_, results_tmp2 rfl _ _ _, ?_⟩
    exact hP
theorem w_done (g : Good Fr) (H : In w0 w (star (PL bd bl R F G d h) (star (WR bw bd bl x) Fr))) (hd : d.deeds ≤ 1000000000) :
    Calls Tryz.prog 40 #[wp_ bw] w (DoneP bw bd bl R F G d h x w0 Fr) := by
  cases hx : x.ended with
  | true => exact done_a g H hx
  | false => exact done_b g H hd hx
def DropP (bw bd bl : Nat) (R : Int) (F : List Int) (G : Int) (d : Ds) (h : Int) (x : Ws) (w0 : World) (Fr : Res) (e : Ending) (w' : World) : Prop :=
  e = .returned (.tuple #[]) ∧ In w0 w' (star (PL bd bl R F G (x.dropD d) (x.endH h)) (star (WR bw bd bl x.dropX) Fr))
theorem w_drop (g : Good Fr) (H : In w0 w (star (PL bd bl R F G d h) (star (WR bw bd bl x) Fr))) :
    Calls Tryz.prog 47 #[wp_ bw] w (DropP bw bd bl R F G d h x w0 Fr) := by
  have CC := w_closed (star_good (PL_good _ _ _ _ _ _ _) g) H.swap
  cases hx : x.ended with
  | true =>
    have e0 : DropP bw bd bl R F G d h x w0 Fr (.returned (.tuple #[])) w := by
      unfold DropP Ws.dropD Ws.dropX Ws.endH
      rw [if_pos hx, if_pos hx, if_pos hx]
      exact ⟨rfl, H⟩
    rw [hx] at CC
    have CC := Lib.hid CC
    have E0 := Lib.hid e0
    clear H hx e0
    go_enter Tryz.func47, Tryz.ntmps47
    go_wp2_with (go_at_call 77; (with_reducible refine CC.out.mono ?_); rintro e w1 ⟨rfl, rfl⟩)
    refine bodyPost_ret (results_none rfl _ _ _) rfl ?_
    exact E0.out
  | false =>
    have hxn : ¬ x.ended = true := by rw [hx]; decide
    rw [hx] at CC
    have CC := Lib.hid CC
    obtain ⟨gp, c, K, H1⟩ := Wo_open H
    obtain ⟨c0, c1, c2, c3, c4, c5, c6, c7⟩ := WR_cells H1
    have f6 := WR_free H1 6
    have gC : Good (star (pgR (pgv gp c) x.rows) (star (PL bd bl R F G d h) Fr)) := star_good (rowR_good _ _ _ _ _) (star_good (PL_good _ _ _ _ _ _ _) g)
    have H2 : In w0 (w.setCell ⟨bw, 6, none⟩ (.int .i64 6)) (star (PL bd bl R F G d h) (star (WR bw bd bl ⟨x.file, x.n, 6, x.ended, x.rows⟩) Fr)) :=
      (WR_shut (x := ⟨x.file, x.n, 6, x.ended, x.rows⟩) ⟨K.ok, K.fit, K.num, K.file⟩ (H1.put gC 6 (.int .i64 6))).swap
    have CE := Lib.hid ((w_end g H2).mono fun (e : Ending) (w' : World) hh => show e = .returned (.tuple #[]) ∧ DropP bw bd bl R F G d h x w0 Fr (.returned (.tuple #[])) w' from by
      obtain ⟨h1, h2⟩ := hh
      refine ⟨h1, ?_⟩
      unfold DropP Ws.dropD Ws.dropX Ws.endH
      rw [if_neg hxn, if_neg hxn, if_neg hxn]
      exact ⟨rfl, h2⟩)
    clear H H1 H2 K hx hxn c0 c1 c2 c3 c4 c5 c7
    go_enter Tryz.func47, Tryz.ntmps47
    go_wp2_with (first
      | (go_at_call 77; (with_reducible refine CC.out.mono ?_); rintro e w1 ⟨rfl, rfl⟩)
      | (go_at_call 80; (with_reducible refine CE.out.mono ?_); rintro e w2 ⟨rfl, V⟩; have V2 := Lib.hid V; clear V))
    go_end0
    exact V2.out
end
end Go.Proofs.YtkbapoeilcapfaaGreat

/- spill: a new writer. -/
namespace Go.Proofs.YtkbapoeilcapfaaGreat
open Go.RowKit Go.Maps
set_option linter.unusedVariables false
set_option linter.unusedSimpArgs false
set_option maxRecDepth 6000

abbrev pbox (bd bl : Nat) : Obj := .cells #[dp bd, lp bl, .int .i64 0] 29 (0, 0)
section
variable {w0 w : World} {bd bl bw b : Nat} {R : Int} {F : List Int} {G : Int} {d : Ds} {h : Int} {x : Ws} {Fr A C : Res}
theorem bx_cells (H : In w0 w (star A (star (blkR b (pbox bd bl)) C))) : w.cell? ⟨b, 0, none⟩ = some (dp bd) ∧ w.cell? ⟨b, 1, none⟩ = some (lp bl) ∧ w.cell? ⟨b, 2, none⟩ = some (.int .i64 0) := by
  have h := H.right.left.get fun S h => h.1
  exact ⟨cell_of_blk h 0, cell_of_blk h 1, cell_of_blk h 2⟩
theorem writer_a (g : Good Fr) (H : In w0 w (star (PL bd bl R F G d h) Fr)) (hE : G ≤ h) :
    Calls Tryz.prog 37 #[pv bd bl] w fun e w' => e = .returned (.tuple #[.pointer none, .int .i64 60]) ∧ In w0 w' (star (PL bd bl R F G d h) Fr) := by
  have H1 := H.pushB (star_good (PL_good _ _ _ _ _ _ _) g) (pbox bd bl)
  have CT := s_take (star_good (blkR_good _ _) g) H1
  rw [if_pos hE, if_pos hE] at CT
  have CT := Lib.hid CT
  clear H H1 hE
  go_enter Tryz.func37, Tryz.ntmps37
  go_wp2_with (go_at_call 73; (with_reducible refine CT.out.mono ?_); rintro e w1 ⟨rfl, V⟩; have V1 := Lib.hid V.drop; clear V CT)
  go_ret2
  exact ⟨by trivial, V1.out⟩
theorem createE_keep {d : Ds} (h : d.createE ≠ 0) : d.create = d := if_neg h
theorem giveH_up {h : Int} (h0 : 0 ≤ h) : giveH (h + 1) = h := by unfold giveH; split <;> omega
theorem writer_b (g : Good Fr) (H : In w0 w (star (PL bd bl R F G d h) Fr)) (hE : ¬ G ≤ h) (hm : d.made ≤ 1000000000) (hC : d.createE ≠ 0) :
    Calls Tryz.prog 37 #[pv bd bl] w fun e w' => e = .returned (.tuple #[.pointer none, .int .i64 d.createE]) ∧ In w0 w' (star (PL bd bl R F G d h) Fr) := by
  have h0 := (PL_ok H).2.1
  have H1 := H.pushB (star_good (PL_good _ _ _ _ _ _ _) g) (pbox bd bl)
  have gB : Good (star (blkR w.heap.size (pbox bd bl)) Fr) := star_good (blkR_good _ _) g
  have CT := s_take gB H1
  rw [if_neg hE, if_neg hE] at CT
  have CT := Lib.hid CT
  have CC := (fun W (V : In w0 W (star (PL bd bl R F G d (h + 1)) (star (blkR w.heap.size (pbox bd bl)) Fr))) => s_create gB V hm)
  rw [createE_keep hC, if_neg hC] at CC
  have CC := Lib.hid CC
  have CG := (fun W (V : In w0 W (star (PL bd bl R F G d (h + 1)) (star (blkR w.heap.size (pbox bd bl)) Fr))) => s_give gB V)
  rw [giveH_up h0] at CG
  have CG := Lib.hid CG
  have hC1 : (d.createE != 0) = true := by simpa using hC
  obtain ⟨E, hEE⟩ : ∃ E, E = d.createE := ⟨_, rfl⟩
  rw [← hEE] at CC hC1 ⊢
  clear H H1 hE hC hEE h0 hm
  go_enter Tryz.func37, Tryz.ntmps37
  go_wp2_with (first
    | (go_at_call 73; (with_reducible refine CT.out.mono ?_); rintro e w1 ⟨rfl, V⟩; obtain ⟨k0, k1, k2⟩ := bx_cells V; have V1 := Lib.hid V; clear V CT)
    | (go_at_call 74; (with_reducible refine (CC.out _ V1.out).mono ?_); rintro e w2 ⟨rfl, V⟩; obtain ⟨l0, l1, l2⟩ := bx_cells V; have V2 := Lib.hid V; clear V CC)
    | (go_at_call 75; (with_reducible refine (CG.out _ V2.out).mono ?_); rintro e w3 ⟨rfl, V⟩; have V3 := Lib.hid V.drop; clear V CG))
  go_ret2
  exact ⟨by trivial, V3.out⟩
theorem writer_c (g : Good Fr) (H : In w0 w (star (PL bd bl R F G d h) Fr)) (hE : ¬ G ≤ h) (hm : d.made ≤ 1000000000) (hC : d.createE = 0) :
    Calls Tryz.prog 37 #[pv bd bl] w fun e w' => ∃ bw, e = .returned (.tuple #[wp_ bw, .int .i64 0]) ∧ In w0 w' (star (PL bd bl R F G d.create (h + 1)) (star (WR bw bd bl (wrX d)) Fr)) := by
  have K := (PL_ok H).1
  have H1 := H.pushB (star_good (PL_good _ _ _ _ _ _ _) g) (pbox bd bl)
  have gB : Good (star (blkR w.heap.size (pbox bd bl)) Fr) := star_good (blkR_good _ _) g
  have gP : Good (star (PL bd bl R F G d.create (h + 1)) (star (blkR w.heap.size (pbox bd bl)) Fr)) := star_good (PL_good _ _ _ _ _ _ _) gB
  have CT := s_take gB H1
  rw [if_neg hE, if_neg hE] at CT
  have CT := Lib.hid CT
  have CC := (fun W (V : In w0 W (star (PL bd bl R F G d (h + 1)) (star (blkR w.heap.size (pbox bd bl)) Fr))) => s_create gB V hm)
  rw [if_pos hC, hC] at CC
  have CC := Lib.hid CC
  have CN := Lib.hid (fun W (V : In w0 W (star (PL bd bl R F G d.create (h + 1)) (star (blkR w.heap.size (pbox bd bl)) Fr))) => (p_new gP (in_drew gP V)).mono fun (e : Ending) (w' : World) hh => show ∃ q, e = .returned (pgv q 256) ∧ (w'.cell? ⟨w.heap.size, 0, none⟩ = some (dp bd) ∧ w'.cell? ⟨w.heap.size, 1, none⟩ = some (lp bl) ∧ w'.cell? ⟨w.heap.size, 2, none⟩ = some (.int .i64 0)) ∧
      In w0 (w'.alloc (wObj bd bl (wrX d) (pgv q 256))) (star (PL bd bl R F G d.create (h + 1)) (star (WR w'.heap.size bd bl (wrX d)) Fr)) from by
    obtain ⟨q, h1, h2⟩ := hh
    refine ⟨q, h1, bx_cells h2.left, ?_⟩
    have h3 := h2.comm.assoc'.drop.assoc
    have g3 : Good (star (pgR (pgv q 256) []) (star (PL bd bl R F G d.create (h + 1)) Fr)) := star_good (rowR_good _ _ _ _ _) (star_good (PL_good _ _ _ _ _ _ _) g)
    exact (WR_shut (x := wrX d) (WOk.new K hm) (h3.blk g3 (wObj bd bl (wrX d) (pgv q 256))).comm).swap)
  clear H H1 hE hC K hm gP
  unfold wrX at CN ⊢
  go_enter Tryz.func37, Tryz.ntmps37
  go_wp2_with (first
    | (go_at_call 73; (with_reducible refine CT.out.mono ?_); rintro e w1 ⟨rfl, V⟩; obtain ⟨k0, k1, k2⟩ := bx_cells V; have V1 := Lib.hid V; clear V CT)
    | (go_at_call 74; (with_reducible refine (CC.out _ V1.out).mono ?_); rintro e w2 ⟨rfl, V⟩; obtain ⟨l0, l1, l2⟩ := bx_cells V; have V2 := Lib.hid V; clear V CC))
  go_region_held3 (fun w' => w'.cell? ⟨w.heap.size, 0, none⟩ = some (dp bd) ∧ w'.cell? ⟨w.heap.size, 1, none⟩ = some (lp bl) ∧ w'.cell? ⟨w.heap.size, 2, none⟩ = some (.int .i64 0)) (first | go_keep | (refine ⟨?_, ?_, ?_⟩ <;> assumption)) (first
    | (go_at_call 76; (with_reducible refine (CN.out _ V2.out).mono ?_); rintro e w3 ⟨q, rfl, ⟨s0, s1, s2⟩, V⟩; have V3 := Lib.hid V; clear V))
  all_goals go_wp2
  all_goals go_ret2
  all_goals exact ⟨_, by trivial, V3.out⟩
end
end Go.Proofs.YtkbapoeilcapfaaGreat

/- spill as plain data: a whole file written, a whole file read. -/
namespace Go.Proofs.YtkbapoeilcapfaaGreat
set_option linter.unusedVariables false
set_option linter.unusedSimpArgs false

structure Wst where
  e : Int
  d : Ds
  x : Ws
/-- Rows put one by one, up to the first that is refused. -/
def putAll (R : Int) (F : List Int) : Ds → Ws → List (List V) → Wst
  | d, x, [] => ⟨0, d, x⟩
  | d, x, r :: t => if x.putE R F d r = 0 then putAll R F (x.putD R F d r) (x.putX R F d r) t else ⟨x.putE R F d r, x.putD R F d r, x.putX R F d r⟩
structure Wt where
  n : Int
  e : Int
  d : Ds
def writeS (R : Int) (F : List Int) (G : Int) (d : Ds) (h : Int) (rows : List (List V)) : Wt :=
  if wrE G d h ≠ 0 then ⟨0, wrE G d h, d⟩ else
  if (putAll R F d.create (wrX d) rows).e ≠ 0 then ⟨0, (putAll R F d.create (wrX d) rows).e, (putAll R F d.create (wrX d) rows).x.dropD (putAll R F d.create (wrX d) rows).d⟩
  else ⟨(putAll R F d.create (wrX d) rows).x.doneN R F (putAll R F d.create (wrX d) rows).d, (putAll R F d.create (wrX d) rows).x.doneE R F (putAll R F d.create (wrX d) rows).d, (putAll R F d.create (wrX d) rows).x.doneD R F (putAll R F d.create (wrX d) rows).d⟩
structure Rt where
  e : Int
  d : Ds
  y : Rs
  l : List (List V)
/-- Rows read one by one, up to the end. -/
def readS (F : List Int) : Nat → Ds → Rs → Rt
  | 0, d, y => ⟨0, d, y, []⟩
  | f + 1, d, y => match (y.next F d).row with
    | some r => ⟨(readS F f (y.next F d).d (y.next F d).x).e, (readS F f (y.next F d).d (y.next F d).x).d, (readS F f (y.next F d).d (y.next F d).x).y, r :: (readS F f (y.next F d).d (y.next F d).x).l⟩
    | none => ⟨(y.next F d).e, (y.next F d).d, (y.next F d).x, []⟩
def rowsN (ps : List Pg) : Nat := (ps.map fun p => (pgRows p).length).sum
/-- How many rows are left to a reader. -/
def leftN (d : Ds) (y : Rs) : Nat := y.rows.length + rowsN (((d.find y.file).getD []).drop y.page)
/-- Files deleted one by one. -/
def delAll (d : Ds) (xs : List Int) : Ds := xs.foldl (fun d x => d.del x) d
abbrev rs0 (n : Int) : Rs := ⟨n, 0, [], false⟩
def allS (F : List Int) (d : Ds) (n : Int) : Rt := readS F (leftN d (rs0 n) + 1) d (rs0 n)
section
variable {R : Int} {F : List Int} {G : Int} {d : Ds} {h n : Int} {x : Ws} {y : Rs} {r : List V}
theorem read_fs (F : List Int) (d : Ds) (n i : Int) : (d.read F n i).fs = d.fs := by
  unfold Ds.read
  split
  · rfl
  · split <;> rfl
theorem read_find (F : List Int) (d : Ds) (n i m : Int) : (d.read F n i).find m = d.find m := by unfold Ds.find; rw [read_fs]
theorem load_fs (F : List Int) (d : Ds) (y : Rs) : (y.loadD F d).fs = d.fs := by
  unfold Rs.loadD
  split
  · rfl
  · split
    · rfl
    · exact read_fs _ _ _ _
theorem next_fs (F : List Int) (d : Ds) (y : Rs) : (y.next F d).d.fs = d.fs := by
  unfold Rs.next
  split
  · rfl
  · split
    · rfl
    · split <;> exact load_fs _ _ _
theorem next_find (F : List Int) (d : Ds) (y : Rs) (m : Int) : (y.next F d).d.find m = d.find m := by unfold Ds.find; rw [next_fs]
theorem next_file (F : List Int) (d : Ds) (y : Rs) : (y.next F d).x.file = y.file := by
  unfold Rs.next
  split
  · rfl
  · split
    · rfl
    · split <;> rfl
theorem next_closed (F : List Int) (d : Ds) (y : Rs) : (y.next F d).x.closed = y.closed := by
  unfold Rs.next
  split
  · rfl
  · split
    · rfl
    · split <;> rfl
/-- The page that a load takes. -/
theorem load_at (hb : y.loadB F d = true) : ∃ ps p, d.find y.file = some ps ∧ ps[y.page]? = some p ∧ d.readP y.file y.page = p ∧ d.readE F y.file y.page = 0 := by
  unfold Rs.loadB at hb
  cases hf : d.find y.file with
  | none => rw [hf] at hb; cases hb
  | some l =>
    rw [hf] at hb
    simp at hb
    have hl : y.page < l.length := by omega
    refine ⟨l, l[y.page], rfl, List.getElem?_eq_getElem hl, ?_, hb.2⟩
    unfold Ds.readP
    rw [hf]
    simp [hl]
theorem rowsN_cons (p : Pg) (ps : List Pg) : rowsN (p :: ps) = (pgRows p).length + rowsN ps := by simp [rowsN]
theorem drop_at {ps : List Pg} {i : Nat} {p : Pg} (h : ps[i]? = some p) : ps.drop i = p :: ps.drop (i + 1) := by
  obtain ⟨hl, e⟩ := List.getElem?_eq_some_iff.1 h
  rw [List.drop_eq_getElem_cons hl, e]
theorem next_left (hn : (y.next F d).row = some r) : leftN (y.next F d).d (y.next F d).x + 1 = leftN d y := by
  have e1 := next_find F d y y.file
  unfold leftN
  rw [next_file, e1]
  by_cases hc : y.closed = true
  · have : y.next F d = ⟨none, 0, d, y⟩ := if_pos hc
    rw [this] at hn
    cases hn
  · cases hr : y.rows with
    | cons a t =>
      have en : y.next F d = ⟨some a, 0, d, ⟨y.file, y.page, t, y.closed⟩⟩ := by unfold Rs.next; rw [if_neg hc, hr]
      rw [en]
      simp only [List.length_cons]
      omega
    | nil =>
      cases hb : y.loadB F d with
      | false =>
        have en : y.next F d = ⟨none, y.loadE F d, y.loadD F d, y⟩ := by unfold Rs.next; rw [if_neg hc, hr]; dsimp only; rw [if_neg (by rw [hb]; decide)]
        rw [en] at hn
        cases hn
      | true =>
        have en : y.next F d = ⟨(y.loadX F d).rows.head?, 0, y.loadD F d, ⟨y.file, y.page + 1, (y.loadX F d).rows.tail, y.closed⟩⟩ := by unfold Rs.next; rw [if_neg hc, hr]; dsimp only; rw [if_pos hb]
        obtain ⟨ps, p, h1, h2, h3, _⟩ := load_at hb
        have ex : (y.loadX F d).rows = pgRows p := by unfold Rs.loadX; rw [if_pos hb, h3]
        rw [en] at hn ⊢
        rw [ex] at hn ⊢
        rw [h1, Option.getD_some, drop_at h2, rowsN_cons]
        dsimp only at hn ⊢
        cases hp : pgRows p with
        | nil => rw [hp] at hn; cases hn
        | cons a t => simp only [List.tail_cons, List.length_cons, List.length_nil]; omega
theorem left_le (K : SOk R d) (hr : y.rows.length ≤ 128) : leftN d y ≤ 3000000 := by
  have h2 : ∀ ps : List Pg, (∀ p ∈ ps, ∃ rows : List (List V), rows ≠ [] ∧ p = mkP rows ∧ usedN rows ≤ 256 ∧ ∀ r ∈ rows, rowOk r = true) → rowsN ps ≤ ps.length * 128 := by
    intro ps
    induction ps with
    | nil => intro _; simp [rowsN]
    | cons p t ih =>
      intro hp
      obtain ⟨rows, _, e, hu, hok⟩ := hp p (by simp)
      have := ih fun q hq => hp q (by simp [hq])
      rw [rowsN_cons, e, pgRows_mkP hok hu, List.length_cons]
      unfold usedN at hu
      omega
  unfold leftN
  cases hf : d.find y.file with
  | none => simp [rowsN]; omega
  | some l =>
    have hm := Ds.find_mem hf
    have h5 := pagesN_mem hm
    have h6 := K.dok.used
    have h7 := K.dok.cnt
    have h8 := K.dok.room
    have h9 := h2 (l.drop y.page) (fun p hp => K.pg _ hm p (List.mem_of_mem_drop hp))
    dsimp only at h5
    rw [List.length_drop] at h9
    simp only [Option.getD_some]
    omega
theorem putAll_le {rows : List (List V)} : ∀ {d : Ds} {x : Ws} {n : Int}, d.le n → (putAll R F d x rows).d.le (n + rows.length) := by
  induction rows with
  | nil => intro d x n k; exact k.mono (by simp)
  | cons r t ih =>
    intro d x n k
    unfold putAll
    split
    · have := ih (d := x.putD R F d r) (x := x.putX R F d r) (le_put k)
      exact this.mono (by simp; omega)
    · exact (le_put k).mono (by simp; omega)
theorem putAll_sok {rows : List (List V)} : ∀ {d : Ds} {x : Ws}, SOk R d → WOk x → x.n + rows.length ≤ 1000000 → SOk R (putAll R F d x rows).d ∧ WOk (putAll R F d x rows).x := by
  induction rows with
  | nil => intro d x k o _; exact ⟨k, o⟩
  | cons r t ih =>
    intro d x k o hn
    simp only [List.length_cons] at hn
    have h1 := SOk.put (r := r) (F := F) k o
    have h2 := WOk.putX (R := R) (F := F) (d := d) (r := r) o (by omega)
    have h3 := put_n (R := R) (F := F) (d := d) (x := x) (r := r)
    unfold putAll
    split
    · exact ih h1 h2 (by omega)
    · exact ⟨h1, h2⟩
theorem readS_le : ∀ {f : Nat} {d : Ds} {y : Rs} {n : Int}, d.le n → (readS F f d y).d.le (n + f)
  | 0, d, y, n, k => k.mono (by simp)
  | f + 1, d, y, n, k => by
    unfold readS
    split
    · have := readS_le (f := f) (y := (y.next F d).x) (le_next (F := F) (y := y) k)
      exact this.mono (by simp; omega)
    · exact (le_next k).mono (by simp; omega)
theorem readS_sok : ∀ {f : Nat} {d : Ds} {y : Rs}, SOk R d → SOk R (readS F f d y).d
  | 0, d, y, k => k
  | f + 1, d, y, k => by
    unfold readS
    split
    · exact readS_sok (f := f) k.next
    · exact k.next
end
end Go.Proofs.YtkbapoeilcapfaaGreat

/- spill: a reader as a thing apart; its load. -/
namespace Go.Proofs.YtkbapoeilcapfaaGreat
open Go.RowKit Go.Maps
set_option linter.unusedVariables false
set_option linter.unusedSimpArgs false
set_option maxRecDepth 6000

/-- Rows by their headers, in a slice that may be cut. -/
def RdRs (w : World) (A : Option Addr) (n c : Nat) (hds : List Value) (rows : List (List V)) : Prop := n ≤ c ∧ c ≤ 9223372036854775807 ∧ RdL w A n hds rows
abbrev rObj (bd bl : Nat) (y : Rs) (hv : Value) : Obj := .cells #[dp bd, lp bl, .int .i64 0, .int .i64 y.file, .int .i64 (y.page : Int), hv, .bool y.closed] 143 (0, 0)
structure ROk (y : Rs) : Prop where
  page : y.page ≤ 16384
  file : (Lit.int .i64 y.file).wf = true
def RR (br bd bl : Nat) (y : Rs) (Q : World → Prop) : Res := fun w S => ROk y ∧ ∃ A n c hds, star (blkR br (rObj bd bl y (.slice A n c))) (rd (fun w => RdRs w A n c hds y.rows ∧ Q w)) w S
theorem RR_good (br bd bl : Nat) (y : Rs) (Q : World → Prop) : Good (RR br bd bl y Q) := by
  refine ⟨?_, ?_⟩
  · rintro w S ⟨_, A, n, c, hds, h⟩
    exact (star_good (blkR_good _ _) (rd_good _)).lt h
  · rintro w w' S T ⟨k, A, n, c, hds, h⟩ ht hn
    exact ⟨k, A, n, c, hds, (star_good (blkR_good _ _) (rd_good _)).turn h ht hn⟩
theorem in_drewN {w0 w : World} {R : Res} (g : Good R) (H : In w0 w R) (n : Nat) : In w0 (w.drewN n) R := H.below g ⟨rfl, rfl, rfl, Nat.le_refl _, fun _ _ => rfl⟩
/-- Rows that have just been made are read as long as they are left alone. -/
theorem rd_rows {w w' : World} {B : Option Addr} {c' : Nat} {hds : List Value} {rows : List (List V)} (h1 : w'.ownsRow w.heap.size 25 1 (.slice B rows.length c') rows.length hds) (h2 : OwnRs w' w.heap.size hds rows) :
    rd (fun W => RdRs W B rows.length c' hds rows) w' (fun k => w.heap.size ≤ k ∧ k < w'.heap.size) := by
  refine ⟨fun k hk => hk.2, fun W ht => ?_⟩
  have h3 := own_turn h1 ht (fun k hk hn => hn ⟨own_ge h1 hk, (h1.lt k hk).2⟩)
  have h4 := h2.turn ht (fun v n r hv k hk hn => hn ⟨own_ge hv hk, (hv.lt k hk).2⟩)
  have hc : rows.length ≤ c' ∧ c' ≤ 9223372036854775807 := by
    rcases h1.2 with ⟨e, _⟩ | ⟨g, cap, cur, e, _, _, hcap, hm, _⟩
    · injection e with _ e2 e3
      omega
    · injection e with _ _ e3
      simp only [maxLen] at hm
      omega
  exact ⟨hc.1, hc.2, RdL.of_own h3 h4⟩
section
variable {w0 w : World} {bd bl br : Nat} {R : Int} {F : List Int} {G : Int} {d : Ds} {h : Int} {y : Rs} {Q : World → Prop} {Fr A : Res}
/-- The reader opened, ahead of the place. -/
abbrev Ro (bd bl br : Nat) (R : Int) (F : List Int) (G : Int) (d : Ds) (h : Int) (y : Rs) (P : World → Prop) (hv : Value) (Fr : Res) : Res := star (blkR br (rObj bd bl y hv)) (star (rd P) (star (PL bd bl R F G d h) Fr))
theorem Ro_good (g : Good Fr) (P : World → Prop) (hv : Value) : Good (Ro bd bl br R F G d h y P hv Fr) := star_good (blkR_good _ _) (star_good (rd_good _) (star_good (PL_good _ _ _ _ _ _ _) g))
theorem Ro_open (H : In w0 w (star (PL bd bl R F G d h) (star (RR br bd bl y Q) Fr))) : ROk y ∧ ∃ A n c hds, In w0 w (Ro bd bl br R F G d h y (fun w => RdRs w A n c hds y.rows ∧ Q w) (.slice A n c) Fr) := by
  obtain ⟨⟨S, ⟨S1, S2, ⟨k, A, n, c, hds, h1⟩, h2, hd, hs⟩, hge⟩, hb⟩ := H.swap
  exact ⟨k, A, n, c, hds, ⟨S, star_assoc ⟨S1, S2, h1, h2, hd, hs⟩, hge⟩, hb⟩
theorem Ro_shut {A : Option Addr} {n c : Nat} {hds : List Value} (k : ROk y) (H : In w0 w (Ro bd bl br R F G d h y (fun w => RdRs w A n c hds y.rows ∧ Q w) (.slice A n c) Fr)) : In w0 w (star (PL bd bl R F G d h) (star (RR br bd bl y Q) Fr)) :=
  (H.assoc'.imp fun S h => star_mono h (fun S h => ⟨k, A, n, c, hds, h⟩) (fun _ => id)).swap
theorem Ro_cells {hv : Value} {F' : Res} (H : In w0 w (star (blkR br (rObj bd bl y hv)) F')) :
    w.cell? ⟨br, 0, none⟩ = some (dp bd) ∧ w.cell? ⟨br, 1, none⟩ = some (lp bl) ∧ w.cell? ⟨br, 2, none⟩ = some (.int .i64 0) ∧ w.cell? ⟨br, 3, none⟩ = some (.int .i64 y.file) ∧ w.cell? ⟨br, 4, none⟩ = some (.int .i64 (y.page : Int)) ∧ w.cell? ⟨br, 5, none⟩ = some hv ∧ w.cell? ⟨br, 6, none⟩ = some (.bool y.closed) := by
  have h := H.left.get fun S h => h.1
  exact ⟨cell_of_blk h 0, cell_of_blk h 1, cell_of_blk h 2, cell_of_blk h 3, cell_of_blk h 4, cell_of_blk h 5, cell_of_blk h 6⟩
theorem Ro_free {hv : Value} {F' : Res} (H : In w0 w (star (blkR br (rObj bd bl y hv)) F')) (i : Nat) : w.frozen? ⟨br, i, none⟩ = false :=
  free_of_blk (H.left.get fun S h => h.1) i
theorem Ro_place {P : World → Prop} {hv : Value} (H : In w0 w (Ro bd bl br R F G d h y P hv Fr)) : In w0 w (star (PL bd bl R F G d h) (star (rd P) (star (blkR br (rObj bd bl y hv)) Fr))) :=
  (H.imp fun S h => star_mono h (fun _ => id) (fun _ => star_swap)).swap.imp fun S h => star_mono h (fun _ => id) (fun _ => star_swap)
theorem Ro_place' {P : World → Prop} {hv : Value} (H : In w0 w (star (PL bd bl R F G d h) (star (rd P) (star (blkR br (rObj bd bl y hv)) Fr)))) : In w0 w (Ro bd bl br R F G d h y P hv Fr) :=
  ((H.imp fun S h => star_mono h (fun _ => id) (fun _ => star_swap)).swap).imp fun S h => star_mono h (fun _ => id) (fun _ => star_swap)
def LoadP (br bd bl : Nat) (R : Int) (F : List Int) (G : Int) (d : Ds) (h : Int) (y : Rs) (Q : World → Prop) (w0 : World) (Fr : Res) (e : Ending) (w' : World) : Prop :=
  e = .returned (.tuple #[.bool (y.loadB F d), .int .i64 (y.loadE F d)]) ∧ In w0 w' (star (PL bd bl R F G (y.loadD F d) h) (star (RR br bd bl (y.loadX F d) Q) Fr))
/-- The size of the reader's file. -/
abbrev szV (d : Ds) (n : Int) : Value := .tuple #[.int .i64 ((d.find n).elim 0 fun l => (l.length : Int)), .int .i64 (if (d.find n).isSome then 0 else 4)]
theorem load_a (g : Good Fr) (H : In w0 w (star (PL bd bl R F G d h) (star (RR br bd bl y Q) Fr))) (hf : d.find y.file = none) :
    Calls Tryz.prog 81 #[.pointer (some ⟨br, 0, none⟩)] w (LoadP br bd bl R F G d h y Q w0 Fr) := by
  have gW : Good (star (PL bd bl R F G d h) (star (RR br bd bl y Q) Fr)) := star_good (PL_good _ _ _ _ _ _ _) (star_good (RR_good _ _ _ _ _) g)
  have e0 : ∀ n, LoadP br bd bl R F G d h y Q w0 Fr (.returned (.tuple #[.bool false, .int .i64 4])) (w.drewN n) := by
    intro n
    have eb : y.loadB F d = false := by unfold Rs.loadB; rw [hf]
    have ee : y.loadE F d = 4 := by unfold Rs.loadE; rw [hf]
    have ed : y.loadD F d = d := by unfold Rs.loadD; rw [hf]
    have ex : y.loadX F d = y := by unfold Rs.loadX; rw [eb, if_neg (by decide)]
    unfold LoadP
    rw [eb, ee, ed, ex]
    exact ⟨rfl, in_drewN gW H n⟩
  have E0 := Lib.hid e0
  obtain ⟨k, A, n, c, hds, H1⟩ := Ro_open H
  obtain ⟨c0, c1, c2, c3, c4, c5, c6⟩ := Ro_cells H1
  have CS := (fun n => s_size (n := y.file) (star_good (RR_good _ _ _ _ _) g) (in_drewN gW H n) k.file)
  rw [hf] at CS
  have CS := Lib.hid CS
  obtain ⟨file, page, rows, closed⟩ := y
  dsimp only at c3 CS
  clear H H1 k e0 hf gW c1 c2 c4 c5 c6
  go_enter Tryz.func81, Tryz.ntmps81
  go_wp2
  go_quiet ((go_at_call 19; exact Calls.quiet_of_same (CS.out _)))
  go_wp2
  go_ret2
  exact E0.out _
theorem load_b (g : Good Fr) (H : In w0 w (star (PL bd bl R F G d h) (star (RR br bd bl y Q) Fr))) {l : List Pg} (hf : d.find y.file = some l) (hl : l.length ≤ y.page) :
    Calls Tryz.prog 81 #[.pointer (some ⟨br, 0, none⟩)] w (LoadP br bd bl R F G d h y Q w0 Fr) := by
  have gW : Good (star (PL bd bl R F G d h) (star (RR br bd bl y Q) Fr)) := star_good (PL_good _ _ _ _ _ _ _) (star_good (RR_good _ _ _ _ _) g)
  have e0 : ∀ n, LoadP br bd bl R F G d h y Q w0 Fr (.returned (.tuple #[.bool false, .int .i64 0])) (w.drewN n) := by
    intro n
    have hl' : (l.length : Int) ≤ (y.page : Int) := by omega
    have eb : y.loadB F d = false := by unfold Rs.loadB; rw [hf]; simp; omega
    have ee : y.loadE F d = 0 := by unfold Rs.loadE; rw [hf]; exact if_pos hl'
    have ed : y.loadD F d = d := by unfold Rs.loadD; rw [hf]; exact if_pos hl'
    have ex : y.loadX F d = y := by unfold Rs.loadX; rw [eb, if_neg (by decide)]
    unfold LoadP
    rw [eb, ee, ed, ex]
    exact ⟨rfl, in_drewN gW H n⟩
  have E0 := Lib.hid e0
  obtain ⟨k, A, n, c, hds, H1⟩ := Ro_open H
  obtain ⟨c0, c1, c2, c3, c4, c5, c6⟩ := Ro_cells H1
  have CS := (fun n => s_size (n := y.file) (star_good (RR_good _ _ _ _ _) g) (in_drewN gW H n) k.file)
  rw [hf] at CS
  have CS := Lib.hid CS
  obtain ⟨N, hN⟩ : ∃ N, N = l.length := ⟨_, rfl⟩
  have hd1 : decide (N ≤ y.page) = true := by simpa [hN] using hl
  have hd2 : (N : Int) ≤ (y.page : Int) := by omega
  obtain ⟨file, page, rows, closed⟩ := y
  dsimp only [Option.elim, Option.isSome] at c3 c4 CS hd1 hd2
  rw [← hN] at CS
  clear H H1 k e0 hf gW c1 c2 c5 c6 hl hN
  go_enter Tryz.func81, Tryz.ntmps81
  go_wp2
  go_quiet ((go_at_call 19; exact Calls.quiet_of_same (CS.out _)))
  go_wp2
  go_ret2
  exact E0.out _
/-- Read beside the reader. -/
theorem l_read {P : World → Prop} {hv : Value} (g : Good Fr) (k : ROk y) (hd : d.deeds ≤ 1000000000) {W : World} (V : In w0 W (Ro bd bl br R F G d h y P hv Fr)) :
    Calls Tryz.prog 110 #[dp bd, .int .i64 y.file, .int .i64 (y.page : Int)] W fun e w' => ∃ v : Option Addr × Nat × Nat, e = .returned (.tuple #[.slice v.1 v.2.1 v.2.2, .int .i64 (d.readE F y.file y.page)]) ∧ (w'.cell? ⟨br, 0, none⟩ = some (dp bd) ∧ w'.cell? ⟨br, 3, none⟩ = some (.int .i64 y.file) ∧ w'.cell? ⟨br, 4, none⟩ = some (.int .i64 (y.page : Int))) ∧
      In w0 w' (star (rowR 5 1 (.slice v.1 v.2.1 v.2.2) v.2.1 (b8 (d.readQ F y.file y.page))) (Ro bd bl br R F G (d.read F y.file y.page) h y P hv Fr)) := by
  have g2 : Good (star (rd P) (star (blkR br (rObj bd bl y hv)) Fr)) := star_good (rd_good _) (star_good (blkR_good _ _) g)
  refine (s_read g2 (Ro_place V) hd k.file).mono fun e w' hh => ?_
  obtain ⟨v, h1, h2⟩ := hh
  have h3 := h2.swap.right
  have h4 := Ro_cells (Ro_place' h3)
  exact ⟨v, h1, ⟨h4.1, h4.2.2.2.1, h4.2.2.2.2.1⟩, h2.swap.imp fun S h => star_mono h (fun _ => id) (fun S h => star_mono (star_swap (star_mono h (fun _ => id) (fun _ h => star_swap h))) (fun _ => id) (fun _ h => star_swap h))⟩
theorem load_c (g : Good Fr) (H : In w0 w (star (PL bd bl R F G d h) (star (RR br bd bl y Q) Fr))) (hd : d.deeds ≤ 1000000000) {l : List Pg} (hf : d.find y.file = some l) (hl : y.page < l.length) (he : d.readE F y.file y.page ≠ 0) :
    Calls Tryz.prog 81 #[.pointer (some ⟨br, 0, none⟩)] w (LoadP br bd bl R F G d h y Q w0 Fr) := by
  have gW : Good (star (PL bd bl R F G d h) (star (RR br bd bl y Q) Fr)) := star_good (PL_good _ _ _ _ _ _ _) (star_good (RR_good _ _ _ _ _) g)
  have e0 : ∀ W, In w0 W (star (PL bd bl R F G (d.read F y.file y.page) h) (star (RR br bd bl y Q) Fr)) → LoadP br bd bl R F G d h y Q w0 Fr (.returned (.tuple #[.bool false, .int .i64 (d.readE F y.file y.page)])) W := by
    intro W V
    have hl' : ¬ (l.length : Int) ≤ (y.page : Int) := by omega
    have eb : y.loadB F d = false := by unfold Rs.loadB; rw [hf]; simp; intro _; exact he
    have ee : y.loadE F d = d.readE F y.file y.page := by unfold Rs.loadE; rw [hf]; exact if_neg hl'
    have ed : y.loadD F d = d.read F y.file y.page := by unfold Rs.loadD; rw [hf]; exact if_neg hl'
    have ex : y.loadX F d = y := by unfold Rs.loadX; rw [eb, if_neg (by decide)]
    unfold LoadP
    rw [eb, ee, ed, ex]
    exact ⟨rfl, V⟩
  have E0 := Lib.hid e0
  obtain ⟨k, A, n, c, hds, H1⟩ := Ro_open H
  obtain ⟨c0, c1, c2, c3, c4, c5, c6⟩ := Ro_cells H1
  have CS := (fun n => s_size (n := y.file) (star_good (RR_good _ _ _ _ _) g) (in_drewN gW H n) k.file)
  rw [hf] at CS
  have CS := Lib.hid CS
  have gR := Ro_good (R := R) (F := F) (G := G) (d := d) (h := h) (y := y) (bd := bd) (bl := bl) (br := br) g (fun w => RdRs w A n c hds y.rows ∧ Q w) (.slice A n c)
  have CR := Lib.hid (fun n' => (l_read g k hd (in_drewN gR H1 n')).mono fun (e : Ending) (w' : World) hh => show ∃ v : Option Addr × Nat × Nat, e = .returned (.tuple #[.slice v.1 v.2.1 v.2.2, .int .i64 (d.readE F y.file y.page)]) ∧ (w'.cell? ⟨br, 0, none⟩ = some (dp bd) ∧ w'.cell? ⟨br, 3, none⟩ = some (.int .i64 y.file) ∧ w'.cell? ⟨br, 4, none⟩ = some (.int .i64 (y.page : Int))) ∧ In w0 w' (star (PL bd bl R F G (d.read F y.file y.page) h) (star (RR br bd bl y Q) Fr)) from by
    obtain ⟨v, h1, h2, h3⟩ := hh
    exact ⟨v, h1, h2, Ro_shut k h3.right⟩)
  obtain ⟨N, hN⟩ : ∃ N, N = l.length := ⟨_, rfl⟩
  have hd1 : decide (N ≤ y.page) = false := by simp [hN]; omega
  have hd2 : ¬ (N : Int) ≤ (y.page : Int) := by omega
  have he1 : (d.readE F y.file y.page != 0) = true := by simpa using he
  obtain ⟨E, hE⟩ : ∃ E, E = d.readE F y.file y.page := ⟨_, rfl⟩
  rw [← hE] at E0 CR he1
  obtain ⟨file, page, rows, closed⟩ := y
  dsimp only [Option.elim, Option.isSome] at c3 c4 CS hd1 hd2 CR E0
  rw [← hN] at CS
  clear H H1 k e0 hf gW gR c1 c2 c5 c6 hl hN he hE
  go_enter Tryz.func81, Tryz.ntmps81
  go_wp2
  go_quiet ((go_at_call 19; exact Calls.quiet_of_same (CS.out _)))
  go_wp2
  go_region_held3 (fun w' => w'.cell? ⟨br, 0, none⟩ = some (dp bd) ∧ w'.cell? ⟨br, 3, none⟩ = some (.int .i64 file) ∧ w'.cell? ⟨br, 4, none⟩ = some (.int .i64 (page : Int))) (first | go_keep | (refine ⟨?_, ?_, ?_⟩ <;> assumption)) (first
    | (go_at_call 110; (with_reducible refine (CR.out _).mono ?_); rintro e w2 ⟨v, rfl, ⟨s0, s3, s4⟩, V⟩; have V2 := Lib.hid V; clear V))
  all_goals go_wp2
  all_goals go_ret2
  all_goals exact E0.out _ V2.out
theorem row_rdb {W : World} {A : Option Addr} {n c : Nat} {rows : List (List V)} (h : W.ownsRow 0 5 1 (.slice A n c) n (u8s (mkP rows))) (hok : ∀ r ∈ rows, rowOk r = true) (hu : usedN rows ≤ 256) : n = 256 ∧ RdB W A n c (mkP rows) := by
  have hn : n = 256 := by
    have h1 := h.1
    rw [List.length_map, mkP_len hu] at h1
    omega
  subst hn
  obtain ⟨g, c2, e⟩ := own_some h (by decide)
  injection e with e1 _ e3
  subst e1 e3
  exact ⟨rfl, own_rdb h hok hu⟩
/-- The rows of the page that was read, beside the reader. -/
theorem l_rows {A A2 : Option Addr} {n c n2 c2 : Nat} {hds : List Value} {rows : List (List V)} (g : Good Fr) (k : ROk y) (hp : y.page < 16384) (hok : ∀ r ∈ rows, rowOk r = true) (hu : usedN rows ≤ 256) {W : World} (V : In w0 W (star (rowR 5 1 (.slice A2 n2 c2) n2 (b8 (mkP rows))) (Ro bd bl br R F G d h y (fun w => RdRs w A n c hds y.rows ∧ Q w) (.slice A n c) Fr))) :
    Calls Tryz.prog 111 #[.slice A2 n2 c2] W fun e w' => ∃ B c', e = .returned (.tuple #[.slice B rows.length c', .int .i64 0]) ∧ (w'.cell? ⟨br, 5, none⟩ = some (.slice A n c) ∧ w'.cell? ⟨br, 4, none⟩ = some (.int .i64 (y.page : Int)) ∧ w'.frozen? ⟨br, 5, none⟩ = false ∧ w'.frozen? ⟨br, 4, none⟩ = false) ∧
      In w0 ((w'.setCell ⟨br, 5, none⟩ (.slice B rows.length c')).setCell ⟨br, 4, none⟩ (.int .i64 ((y.page : Int) + 1))) (star (PL bd bl R F G d h) (star (RR br bd bl ⟨y.file, y.page + 1, rows, y.closed⟩ Q) Fr)) := by
  have hb := (row_rdb (V.left.get fun S h => h.1) hok hu).2
  refine (prows_yes hb (scan_mkP hok hu)).mono fun e w' hh => ?_
  obtain ⟨B, c', hds', h1, h2, h3, h4⟩ := hh
  have gX : Good (star (PL bd bl R F G d h) Fr) := star_good (PL_good _ _ _ _ _ _ _) g
  have H3 := V.right.add (Ro_good g _ _) h4 (rd_rows h2 h3) (fun k hk => hk.1)
  have H4 : In w0 w' (star (blkR br (rObj bd bl y (.slice A n c))) (star (rd (fun w => RdRs w B rows.length c' hds' rows ∧ Q w)) (star (PL bd bl R F G d h) Fr))) :=
    H3.assoc.imp fun S h => star_mono h (fun _ => id) (fun _ h => star_mono (star_assoc' (star_comm h)) (fun _ h => rd_imp (rd_and h) (fun w q => ⟨q.1, q.2.2⟩)) (fun _ => id))
  obtain ⟨c0, c1, c2, c3, c4, c5, c6⟩ := Ro_cells H4
  refine ⟨B, c', h1, ⟨c5, c4, Ro_free H4 5, Ro_free H4 4⟩, ?_⟩
  have gY : Good (star (rd (fun w => RdRs w B rows.length c' hds' rows ∧ Q w)) (star (PL bd bl R F G d h) Fr)) := star_good (rd_good _) gX
  have H5 := (H4.put gY 5 (.slice B rows.length c')).put gY 4 (.int .i64 ((y.page : Int) + 1))
  exact Ro_shut (y := ⟨y.file, y.page + 1, rows, y.closed⟩) ⟨by dsimp only; omega, k.file⟩ H5
theorem load_page {n : Int} {i : Nat} (K : SOk R d) (he : d.readE F n i = 0) : ∃ rows : List (List V), rows ≠ [] ∧ d.readP n i = mkP rows ∧ d.readQ F n i = mkP rows ∧ usedN rows ≤ 256 ∧ (∀ r ∈ rows, rowOk r = true) ∧ i < 16384 := by
  have hq : d.readQ F n i = d.readP n i := if_pos he
  rw [hq]
  unfold Ds.readE at he
  cases hf : d.find n with
  | none => rw [hf] at he; cases he
  | some l =>
    rw [hf] at he
    dsimp only at he
    by_cases hi : (i : Int) < 0 ∨ (l.length : Int) ≤ (i : Int)
    · rw [if_pos hi] at he; cases he
    · have hl : i < l.length := by omega
      have hm := Ds.find_mem hf
      obtain ⟨rows, h1, h2, h3, h4⟩ := K.pg _ hm l[i] (List.getElem_mem hl)
      have h5 := pagesN_mem hm
      have h6 := K.dok.used
      have h7 := K.dok.cnt
      have h8 := K.dok.room
      have e : d.readP n i = mkP rows := by
        unfold Ds.readP
        rw [hf, ← h2]
        simp [hl]
      exact ⟨rows, h1, e, e, h3, h4, by dsimp only at h5; omega⟩
set_option maxHeartbeats 1000000 in
theorem load_d (g : Good Fr) (H : In w0 w (star (PL bd bl R F G d h) (star (RR br bd bl y Q) Fr))) (hd : d.deeds ≤ 1000000000) {l : List Pg} (hf : d.find y.file = some l) (hl : y.page < l.length) (he : d.readE F y.file y.page = 0) :
    Calls Tryz.prog 81 #[.pointer (some ⟨br, 0, none⟩)] w (LoadP br bd bl R F G d h y Q w0 Fr) := by
  have gW : Good (star (PL bd bl R F G d h) (star (RR br bd bl y Q) Fr)) := star_good (PL_good _ _ _ _ _ _ _) (star_good (RR_good _ _ _ _ _) g)
  obtain ⟨rows, r1, r2, r3, r4, r5, r6⟩ := load_page (PL_ok H).1 he
  have e0 : ∀ W, In w0 W (star (PL bd bl R F G (d.read F y.file y.page) h) (star (RR br bd bl ⟨y.file, y.page + 1, rows, y.closed⟩ Q) Fr)) → LoadP br bd bl R F G d h y Q w0 Fr (.returned (.tuple #[.bool true, .int .i64 0])) W := by
    intro W V
    have hl' : ¬ (l.length : Int) ≤ (y.page : Int) := by omega
    have eb : y.loadB F d = true := by unfold Rs.loadB; rw [hf]; simp [he]; omega
    have ee : y.loadE F d = 0 := by unfold Rs.loadE; rw [hf]; exact (if_neg hl').trans he
    have ed : y.loadD F d = d.read F y.file y.page := by unfold Rs.loadD; rw [hf]; exact if_neg hl'
    have ex : y.loadX F d = ⟨y.file, y.page + 1, rows, y.closed⟩ := by unfold Rs.loadX; rw [eb, if_pos rfl, r2, pgRows_mkP r5 r4]
    unfold LoadP
    rw [eb, ee, ed, ex]
    exact ⟨rfl, V⟩
  have E0 := Lib.hid e0
  obtain ⟨k, A, n, c, hds, H1⟩ := Ro_open H
  have hpg := k.page
  obtain ⟨c0, c1, c2, c3, c4, c5, c6⟩ := Ro_cells H1
  have CS := (fun n => s_size (n := y.file) (star_good (RR_good _ _ _ _ _) g) (in_drewN gW H n) k.file)
  rw [hf] at CS
  have CS := Lib.hid CS
  have gR := Ro_good (R := R) (F := F) (G := G) (d := d) (h := h) (y := y) (bd := bd) (bl := bl) (br := br) g (fun w => RdRs w A n c hds y.rows ∧ Q w) (.slice A n c)
  have CR := (fun n' => (l_read g k hd (in_drewN gR H1 n')))
  rw [he, r3] at CR
  have CR := Lib.hid CR
  have CW := Lib.hid (fun W (v : Option Addr × Nat × Nat) (V : In w0 W (star (rowR 5 1 (.slice v.1 v.2.1 v.2.2) v.2.1 (b8 (mkP rows))) (Ro bd bl br R F G (d.read F y.file y.page) h y (fun w => RdRs w A n c hds y.rows ∧ Q w) (.slice A n c) Fr))) => l_rows g k r6 r5 r4 V)
  obtain ⟨N, hN⟩ : ∃ N, N = l.length := ⟨_, rfl⟩
  have hd1 : decide (N ≤ y.page) = false := by simp [hN]; omega
  have hd2 : ¬ (N : Int) ≤ (y.page : Int) := by omega
  obtain ⟨NR, hNR⟩ : ∃ NR, NR = rows.length := ⟨_, rfl⟩
  rw [← hNR] at CW
  obtain ⟨D', hD'⟩ : ∃ D', D' = d.read F y.file y.page := ⟨_, rfl⟩
  rw [← hD'] at CW CR E0
  obtain ⟨file, page, rows0, closed⟩ := y
  dsimp only [Option.elim, Option.isSome] at c3 c4 CS hd1 hd2 CR E0 CW hpg
  rw [← hN] at CS
  clear H H1 k e0 hf gW gR c1 c2 c5 c6 hl hN he r1 r2 r3 r4 r5 r6 hNR hD'
  go_enter Tryz.func81, Tryz.ntmps81
  go_wp2
  go_quiet ((go_at_call 19; exact Calls.quiet_of_same (CS.out _)))
  go_wp2
  go_region_held3 (fun w' => w'.cell? ⟨br, 0, none⟩ = some (dp bd) ∧ w'.cell? ⟨br, 3, none⟩ = some (.int .i64 file) ∧ w'.cell? ⟨br, 4, none⟩ = some (.int .i64 (page : Int))) (first | go_keep | (refine ⟨?_, ?_, ?_⟩ <;> assumption)) (first
    | (go_at_call 110; (with_reducible refine (CR.out _).mono ?_); rintro e w2 ⟨v, rfl, ⟨s0, s3, s4⟩, V⟩; have V2 := Lib.hid V; clear V))
  all_goals go_wp2_with (go_at_call 111; (with_reducible refine (CW.out _ _ V2.out).mono ?_); rintro e w3 ⟨B, c', rfl, ⟨q5, q4, q5f, q4f⟩, V⟩; have V3 := Lib.hid V; clear V)
  all_goals go_ret2
  all_goals exact E0.out _ V3.out
theorem r_load (g : Good Fr) (H : In w0 w (star (PL bd bl R F G d h) (star (RR br bd bl y Q) Fr))) (hd : d.deeds ≤ 1000000000) :
    Calls Tryz.prog 81 #[.pointer (some ⟨br, 0, none⟩)] w (LoadP br bd bl R F G d h y Q w0 Fr) := by
  cases hf : d.find y.file with
  | none => exact load_a g H hf
  | some l =>
    rcases Nat.lt_or_ge y.page l.length with hl | hl
    · by_cases he : d.readE F y.file y.page = 0
      · exact load_d g H hd hf hl he
      · exact load_c g H hd hf hl he
    · exact load_b g H hf hl
end
end Go.Proofs.YtkbapoeilcapfaaGreat

/- spill: a reader's Next. -/
namespace Go.Proofs.YtkbapoeilcapfaaGreat
open Go.RowKit Go.Maps
set_option linter.unusedVariables false
set_option linter.unusedSimpArgs false
set_option maxRecDepth 6000

section
variable {w0 w : World} {bd bl br : Nat} {R : Int} {F : List Int} {G : Int} {d : Ds} {h : Int} {y : Rs} {Q : World → Prop} {Fr A : Res}
abbrev rp_ (br : Nat) : Value := .pointer (some ⟨br, 0, none⟩)
theorem add_zero0 (a : Addr) : a.add 0 = a := by unfold Addr.add; split <;> simp_all
/-- What a Next leaves that finds no row. -/
def NoneP (br bd bl : Nat) (R : Int) (F : List Int) (G : Int) (d : Ds) (h : Int) (y : Rs) (Q : World → Prop) (w0 : World) (Fr : Res) (e : Ending) (w' : World) : Prop :=
  e = .returned (.tuple #[.slice none 0 0, .bool false, .int .i64 (y.next F d).e]) ∧ In w0 w' (star (PL bd bl R F G (y.next F d).d h) (star (RR br bd bl (y.next F d).x Q) Fr))
/-- What a Next leaves that finds the row r. -/
def SomeP (br bd bl : Nat) (R : Int) (F : List Int) (G : Int) (d : Ds) (h : Int) (y : Rs) (r : List V) (Q : World → Prop) (w0 : World) (Fr : Res) (e : Ending) (w' : World) : Prop :=
  ∃ B m c, e = .returned (.tuple #[.slice B m c, .bool true, .int .i64 0]) ∧ In w0 w' (star (PL bd bl R F G (y.next F d).d h) (star (RR br bd bl (y.next F d).x (fun w => Q w ∧ RdV w B m r)) Fr))
theorem next_a (g : Good Fr) (H : In w0 w (star (PL bd bl R F G d h) (star (RR br bd bl y Q) Fr))) (hc : y.closed = true) :
    Calls Tryz.prog 42 #[rp_ br] w (NoneP br bd bl R F G d h y Q w0 Fr) := by
  have en : y.next F d = ⟨none, 0, d, y⟩ := if_pos hc
  have e0 : NoneP br bd bl R F G d h y Q w0 Fr (.returned (.tuple #[.slice none 0 0, .bool false, .int .i64 0])) w := by
    unfold NoneP
    rw [en]
    exact ⟨rfl, H⟩
  have E0 := Lib.hid e0
  obtain ⟨k, A, n, c, hds, H1⟩ := Ro_open H
  obtain ⟨c0, c1, c2, c3, c4, c5, c6⟩ := Ro_cells H1
  rw [hc] at c6
  clear H H1 k e0 hc en c0 c1 c2 c3 c4 c5
  go_enter Tryz.func42, Tryz.ntmps42
  go_wp2
  refine bodyPost_ret (results_tmp3 rfl _ _ _) rfl ?_
  exact E0.out
/-- The head of the rows that are left. -/
theorem next_head (g : Good Fr) (H : In w0 w (star (PL bd bl R F G d h) (star (RR br bd bl y Q) Fr))) {r : List V} {t : List (List V)} (hr : y.rows = r :: t) :
    ∃ ad n c B m cc, (w.cell? ⟨br, 5, none⟩ = some (.slice (some ad) (n + 1) (c + 1)) ∧ w.cell? ⟨br, 6, none⟩ = some (.bool y.closed) ∧ w.frozen? ⟨br, 5, none⟩ = false ∧ n ≤ c ∧ c + 1 ≤ 9223372036854775807) ∧ w.cell? (ad.add 0) = some (.slice B m cc) ∧
      In w0 (w.setCell ⟨br, 5, none⟩ (if c = 0 then .slice (some ad) n c else .slice (some (ad.add 1)) n c)) (star (PL bd bl R F G d h) (star (RR br bd bl ⟨y.file, y.page, t, y.closed⟩ (fun w => Q w ∧ RdV w B m r)) Fr)) := by
  obtain ⟨k, A, n, c, hds, H1⟩ := Ro_open H
  obtain ⟨c0, c1, c2, c3, c4, c5, c6⟩ := Ro_cells H1
  have P := H1.right.left.get fun S h => rd_get h
  rw [hr] at P
  obtain ⟨⟨hnc, hc64, L⟩, _⟩ := P
  have hlen := L.len
  simp only [List.length_cons] at hlen
  obtain ⟨n, rfl⟩ : ∃ n', n = n' + 1 := ⟨t.length, hlen.symm⟩
  obtain ⟨c, rfl⟩ : ∃ c', c = c' + 1 := ⟨c - 1, by omega⟩
  obtain ⟨ad, B, m, cc, r', rfl, hlt, hr0, hh, hcell, hv⟩ := L.at_ (k := 0) (by omega)
  obtain ⟨x0, hds, rfl⟩ : ∃ x0 hd, hds = x0 :: hd := by
    cases hds with
    | nil => simp at hh
    | cons a b => exact ⟨a, b, rfl⟩
  refine ⟨ad, n, c, B, m, cc, ⟨c5, c6, Ro_free H1 5, by omega, hc64⟩, hcell, ?_⟩
  have gY : Good (star (rd (fun w => RdRs w (some ad) (n + 1) (c + 1) (x0 :: hds) y.rows ∧ Q w)) (star (PL bd bl R F G d h) Fr)) := star_good (rd_good _) (star_good (PL_good _ _ _ _ _ _ _) g)
  have key : ∀ W, RdRs W (some ad) (n + 1) (c + 1) (x0 :: hds) y.rows ∧ Q W → RdV W B m r ∧ (n = 0 ∨ RdRs W (some (ad.add 1)) n c hds t) ∧ RdRs W (some ad) 0 0 [] [] ∧ hds.length = n ∧ t.length = n := by
    rintro W ⟨⟨_, _, L'⟩, _⟩
    rw [hr] at L'
    have l1 := L'.hd.1
    have l2 := L'.len
    simp only [List.length_cons] at l1 l2
    refine ⟨?_, ?_, ⟨Nat.le_refl _, by omega, ⟨⟨rfl, by omega, fun h => absurd h (by omega)⟩, rfl, fun i r' hr' => by simp at hr'⟩⟩, by omega, by omega⟩
    · obtain ⟨B', m', c', e1, e2⟩ := L'.row 0 r rfl
      rw [hh] at e1
      injection e1 with e1
      injection e1 with e3 e4 e5
      rw [e3, e4]
      exact e2
    · rcases Nat.eq_zero_or_pos n with h0 | h0
      · exact .inl h0
      · refine .inr ⟨by omega, by omega, ⟨⟨by omega, by omega, fun _ => ?_⟩, by omega, fun i r' hr' => ?_⟩⟩
        · obtain ⟨ad', e1, e2, e3⟩ := L'.hd.2.2 (by omega)
          injection e1 with e1
          subst e1
          refine ⟨_, rfl, by rw [add_block]; exact e2, fun j u hu => ?_⟩
          have := e3 (j + 1) u (by simpa using hu)
          rw [show (ad.add 1).add j = ad.add (j + 1) from by rw [Addr.add_add, Nat.add_comm]]
          exact this
        · obtain ⟨B', m', c', e1, e2⟩ := L'.row (i + 1) r' (by simpa using hr')
          exact ⟨B', m', c', by simpa using e1, e2⟩
  by_cases hc0 : c = 0
  · subst hc0
    obtain rfl : n = 0 := by omega
    rw [if_pos rfl]
    have H5 := H1.put gY 5 (.slice (some ad) 0 0)
    refine Ro_shut (y := ⟨y.file, y.page, t, y.closed⟩) (hds := []) ⟨k.page, k.file⟩ (H5.imp fun S hS => star_mono hS (fun _ => id) (fun _ hS => star_mono hS (fun _ hS => rd_imp hS fun W q => ?_) (fun _ => id)))
    obtain ⟨k1, k2, k3, k4, k5⟩ := key W q
    obtain rfl : t = [] := List.eq_nil_of_length_eq_zero k5
    exact ⟨k3, q.2, k1⟩
  · rw [if_neg hc0]
    have H5 := H1.put gY 5 (.slice (some (ad.add 1)) n c)
    refine Ro_shut (y := ⟨y.file, y.page, t, y.closed⟩) (hds := hds) ⟨k.page, k.file⟩ (H5.imp fun S hS => star_mono hS (fun _ => id) (fun _ hS => star_mono hS (fun _ hS => rd_imp hS fun W q => ?_) (fun _ => id)))
    obtain ⟨k1, k2, k3, k4, k5⟩ := key W q
    refine ⟨?_, q.2, k1⟩
    rcases k2 with h0 | h0
    · subst h0
      obtain rfl : t = [] := List.eq_nil_of_length_eq_zero k5
      obtain rfl : hds = [] := List.eq_nil_of_length_eq_zero k4
      exact ⟨by omega, by omega, ⟨⟨rfl, by omega, fun h => absurd h (by omega)⟩, rfl, fun i r' hr' => by simp at hr'⟩⟩
    · exact h0
theorem next_b (g : Good Fr) (H : In w0 w (star (PL bd bl R F G d h) (star (RR br bd bl y Q) Fr))) (hc : y.closed = false) {r : List V} {t : List (List V)} (hr : y.rows = r :: t) :
    Calls Tryz.prog 42 #[rp_ br] w (SomeP br bd bl R F G d h y r Q w0 Fr) := by
  have en : y.next F d = ⟨some r, 0, d, ⟨y.file, y.page, t, y.closed⟩⟩ := by unfold Rs.next; rw [if_neg (by rw [hc]; decide), hr]
  obtain ⟨ad, n, c, B, m, cc, ⟨c5, c6, f5, hnc, hcm⟩, hcell, V⟩ := next_head g H hr
  rw [hc] at c6
  rw [add_zero0] at hcell
  have e0 : SomeP br bd bl R F G d h y r Q w0 Fr (.returned (.tuple #[.slice B m cc, .bool true, .int .i64 0])) (w.setCell ⟨br, 5, none⟩ (if c = 0 then .slice (some ad) n c else .slice (some (ad.add 1)) n c)) := by
    unfold SomeP
    rw [en]
    exact ⟨B, m, cc, rfl, V⟩
  clear H V en hr hc
  rcases Nat.eq_zero_or_pos c with h0 | h0
  · subst h0
    obtain rfl : n = 0 := by omega
    rw [if_pos rfl] at e0
    have E0 := Lib.hid e0
    clear e0 hnc hcm
    go_enter Tryz.func42, Tryz.ntmps42
    go_wp2
    refine wp_loop_rounds 1 ?_
    rw [rounds_succ]
    go_wp2
    all_goals refine bodyPost_ret (results_tmp3 rfl _ _ _) rfl ?_
    all_goals exact E0.out
  · rw [if_neg (by omega)] at e0
    have E0 := Lib.hid e0
    clear e0
    have hn0 : ((n : Int) + 1 == 0) = false := by simp; omega
    have hn1 : (0 : Int) < (n : Int) + 1 := by omega
    have hc0 : ¬ c = 0 := by omega
    go_enter Tryz.func42, Tryz.ntmps42
    go_wp2
    refine wp_loop_rounds 1 ?_
    rw [rounds_succ]
    go_wp2
    all_goals refine bodyPost_ret (results_tmp3 rfl _ _ _) rfl ?_
    all_goals exact E0.out
theorem load_none (hb : y.loadB F d = false) : y.loadX F d = y := by unfold Rs.loadX; rw [hb, if_neg (by decide)]
theorem rows_nil_cell (g : Good Fr) (H : In w0 w (star (PL bd bl R F G d h) (star (RR br bd bl y Q) Fr))) (hr : y.rows = []) : ∃ A c, w.cell? ⟨br, 5, none⟩ = some (.slice A 0 c) ∧ w.cell? ⟨br, 6, none⟩ = some (.bool y.closed) := by
  obtain ⟨k, A, n, c, hds, H1⟩ := Ro_open H
  obtain ⟨c0, c1, c2, c3, c4, c5, c6⟩ := Ro_cells H1
  have P := H1.right.left.get fun S h => rd_get h
  rw [hr] at P
  have := P.1.2.2.len
  obtain rfl : n = 0 := by simpa using this.symm
  exact ⟨A, c, c5, c6⟩
theorem next_c (g : Good Fr) (H : In w0 w (star (PL bd bl R F G d h) (star (RR br bd bl y Q) Fr))) (hd : d.deeds ≤ 1000000000) (hc : y.closed = false) (hr : y.rows = []) (hb : y.loadB F d = false) :
    Calls Tryz.prog 42 #[rp_ br] w (NoneP br bd bl R F G d h y Q w0 Fr) := by
  have en : y.next F d = ⟨none, y.loadE F d, y.loadD F d, y⟩ := by unfold Rs.next; rw [if_neg (by rw [hc]; decide), hr]; dsimp only; rw [if_neg (by rw [hb]; decide)]
  have CL := r_load g H hd
  have CL := CL.mono fun e w' hh => show e = .returned (.tuple #[.bool false, .int .i64 (y.loadE F d)]) ∧ NoneP br bd bl R F G d h y Q w0 Fr (.returned (.tuple #[.slice none 0 0, .bool false, .int .i64 (y.loadE F d)])) w' from by
    obtain ⟨h1, h2⟩ := hh
    rw [hb] at h1
    refine ⟨h1, ?_⟩
    unfold NoneP
    rw [en]
    rw [load_none hb] at h2
    exact ⟨rfl, h2⟩
  have CL := Lib.hid CL
  obtain ⟨A, c, c5, c6⟩ := rows_nil_cell g H hr
  rw [hc] at c6
  obtain ⟨E, hE⟩ : ∃ E, E = y.loadE F d := ⟨_, rfl⟩
  rw [← hE] at CL
  clear H en hE hr hc hb
  go_enter Tryz.func42, Tryz.ntmps42
  go_wp2
  refine wp_loop_rounds 1 ?_
  rw [rounds_succ]
  go_wp2_with (go_at_call 81; (with_reducible refine CL.out.mono ?_); rintro e w1 ⟨rfl, V⟩; have V1 := Lib.hid V; clear V)
  all_goals refine bodyPost_ret (results_tmp3 rfl _ _ _) rfl ?_
  all_goals exact V1.out
theorem next_d (g : Good Fr) (H : In w0 w (star (PL bd bl R F G d h) (star (RR br bd bl y Q) Fr))) (hd : d.deeds ≤ 1000000000) (hc : y.closed = false) (hr : y.rows = []) (hb : y.loadB F d = true) {r : List V} {t : List (List V)} (hx : (y.loadX F d).rows = r :: t) :
    Calls Tryz.prog 42 #[rp_ br] w (SomeP br bd bl R F G d h y r Q w0 Fr) := by
  have en : y.next F d = ⟨some r, 0, y.loadD F d, ⟨y.file, y.page + 1, t, y.closed⟩⟩ := by unfold Rs.next; rw [if_neg (by rw [hc]; decide), hr]; dsimp only; rw [if_pos hb, hx]; rfl
  have ex : (⟨(y.loadX F d).file, (y.loadX F d).page, t, (y.loadX F d).closed⟩ : Rs) = ⟨y.file, y.page + 1, t, y.closed⟩ := by unfold Rs.loadX; rw [if_pos hb]
  have CL := (r_load g H hd).mono fun e w' hh => show e = .returned (.tuple #[.bool true, .int .i64 (y.loadE F d)]) ∧ ∃ ad n c B m cc, (w'.cell? ⟨br, 5, none⟩ = some (.slice (some ad) (n + 1) (c + 1)) ∧ w'.frozen? ⟨br, 5, none⟩ = false ∧ n ≤ c ∧ c + 1 ≤ 9223372036854775807) ∧ w'.cell? ad = some (.slice B m cc) ∧
      SomeP br bd bl R F G d h y r Q w0 Fr (.returned (.tuple #[.slice B m cc, .bool true, .int .i64 0])) (w'.setCell ⟨br, 5, none⟩ (if c = 0 then .slice (some ad) n c else .slice (some (ad.add 1)) n c)) from by
    obtain ⟨h1, h2⟩ := hh
    rw [hb] at h1
    obtain ⟨ad, n, c, B, m, cc, ⟨c5, _, f5, hnc, hcm⟩, hcell, V⟩ := next_head g h2 hx
    rw [add_zero0] at hcell
    refine ⟨h1, ad, n, c, B, m, cc, ⟨c5, f5, hnc, hcm⟩, hcell, ?_⟩
    unfold SomeP
    rw [en]
    rw [ex] at V
    exact ⟨B, m, cc, rfl, V⟩
  have CL := Lib.hid CL
  obtain ⟨A, c, c5, c6⟩ := rows_nil_cell g H hr
  rw [hc] at c6
  obtain ⟨E, hE⟩ : ∃ E, E = y.loadE F d := ⟨_, rfl⟩
  rw [← hE] at CL
  clear H en hE hr hc hb ex hx
  go_enter Tryz.func42, Tryz.ntmps42
  go_wp2
  refine wp_loop_rounds 2 ?_
  rw [rounds_succ]
  go_wp2_with (go_at_call 81; (with_reducible refine CL.out.mono ?_); rintro e w1 ⟨rfl, ad, n, c, B, m, cc, ⟨q5, f5, hnc, hcm⟩, hcell, V⟩; have hn0 : ((n : Int) + 1 == 0) = false := (by simp; omega); have hn1 : (0 : Int) < (n : Int) + 1 := (by omega); have V1 := Lib.hid V; clear V)
  rw [rounds_succ]
  rcases Nat.eq_zero_or_pos c with h0 | h0
  · subst h0
    obtain rfl : n = 0 := by omega
    have V2 := V1.out
    rw [if_pos rfl] at V2
    have V2 := Lib.hid V2
    clear V1 hnc hcm hn0 hn1
    go_wp2
    all_goals refine bodyPost_ret (results_tmp3 rfl _ _ _) rfl ?_
    all_goals exact V2.out
  · have V2 := V1.out
    rw [if_neg (by omega)] at V2
    have V2 := Lib.hid V2
    have hc0 : ¬ c = 0 := by omega
    clear V1
    go_wp2
    all_goals refine bodyPost_ret (results_tmp3 rfl _ _ _) rfl ?_
    all_goals exact V2.out
theorem loadX_rows (K : SOk R d) (hb : y.loadB F d = true) : ∃ r t, (y.loadX F d).rows = r :: t := by
  have he : d.readE F y.file y.page = 0 := by
    unfold Rs.loadB at hb
    cases hf : d.find y.file with
    | none => rw [hf] at hb; cases hb
    | some l => rw [hf] at hb; simp at hb; exact hb.2
  obtain ⟨rows, r1, r2, r3, r4, r5, r6⟩ := load_page K he
  unfold Rs.loadX
  rw [if_pos hb, r2, pgRows_mkP r5 r4]
  cases rows with
  | nil => exact absurd rfl r1
  | cons a b => exact ⟨a, b, rfl⟩
theorem r_next_none (g : Good Fr) (H : In w0 w (star (PL bd bl R F G d h) (star (RR br bd bl y Q) Fr))) (hd : d.deeds ≤ 1000000000) (hn : (y.next F d).row = none) :
    Calls Tryz.prog 42 #[rp_ br] w (NoneP br bd bl R F G d h y Q w0 Fr) := by
  cases hc : y.closed with
  | true => exact next_a g H hc
  | false =>
    cases hr : y.rows with
    | cons r t =>
      have en : y.next F d = ⟨some r, 0, d, ⟨y.file, y.page, t, y.closed⟩⟩ := by unfold Rs.next; rw [if_neg (by rw [hc]; decide), hr]
      rw [en] at hn
      cases hn
    | nil =>
      cases hb : y.loadB F d with
      | false => exact next_c g H hd hc hr hb
      | true =>
        obtain ⟨r, t, hx⟩ := loadX_rows (PL_ok H).1 hb
        have en : y.next F d = ⟨some r, 0, y.loadD F d, ⟨y.file, y.page + 1, t, y.closed⟩⟩ := by unfold Rs.next; rw [if_neg (by rw [hc]; decide), hr]; dsimp only; rw [if_pos hb, hx]; rfl
        rw [en] at hn
        cases hn
theorem r_next_some (g : Good Fr) (H : In w0 w (star (PL bd bl R F G d h) (star (RR br bd bl y Q) Fr))) (hd : d.deeds ≤ 1000000000) {r : List V} (hn : (y.next F d).row = some r) :
    Calls Tryz.prog 42 #[rp_ br] w (SomeP br bd bl R F G d h y r Q w0 Fr) := by
  cases hc : y.closed with
  | true =>
    have en : y.next F d = ⟨none, 0, d, y⟩ := if_pos hc
    rw [en] at hn
    cases hn
  | false =>
    cases hr : y.rows with
    | cons r' t =>
      have en : y.next F d = ⟨some r', 0, d, ⟨y.file, y.page, t, y.closed⟩⟩ := by unfold Rs.next; rw [if_neg (by rw [hc]; decide), hr]
      rw [en] at hn
      injection hn with hn
      subst hn
      exact next_b g H hc hr
    | nil =>
      cases hb : y.loadB F d with
      | false =>
        have en : y.next F d = ⟨none, y.loadE F d, y.loadD F d, y⟩ := by unfold Rs.next; rw [if_neg (by rw [hc]; decide), hr]; dsimp only; rw [if_neg (by rw [hb]; decide)]
        rw [en] at hn
        cases hn
      | true =>
        obtain ⟨r', t, hx⟩ := loadX_rows (PL_ok H).1 hb
        have en : y.next F d = ⟨some r', 0, y.loadD F d, ⟨y.file, y.page + 1, t, y.closed⟩⟩ := by unfold Rs.next; rw [if_neg (by rw [hc]; decide), hr]; dsimp only; rw [if_pos hb, hx]; rfl
        rw [en] at hn
        injection hn with hn
        subst hn
        exact next_d g H hd hc hr hb hx
end
end Go.Proofs.YtkbapoeilcapfaaGreat

/- spill: a reader's Close; a new reader. -/
namespace Go.Proofs.YtkbapoeilcapfaaGreat
open Go.RowKit Go.Maps
set_option linter.unusedVariables false
set_option linter.unusedSimpArgs false
set_option maxRecDepth 6000

section
variable {w0 w : World} {bd bl br : Nat} {R : Int} {F : List Int} {G : Int} {d : Ds} {h : Int} {y : Rs} {Q : World → Prop} {Fr A : Res}
def CloseP (br bd bl : Nat) (R : Int) (F : List Int) (G : Int) (d : Ds) (h : Int) (y : Rs) (Q : World → Prop) (w0 : World) (Fr : Res) (e : Ending) (w' : World) : Prop :=
  e = .returned (.tuple #[]) ∧ In w0 w' (star (PL bd bl R F G d (y.closeH h)) (star (RR br bd bl y.closeX Q) Fr))
theorem close_get (g : Good Fr) (H : In w0 w (star (PL bd bl R F G d h) (star (RR br bd bl y Q) Fr))) : w.cell? ⟨br, 6, none⟩ = some (.bool y.closed) ∧ w.frozen? ⟨br, 6, none⟩ = false ∧
    (w.setCell ⟨br, 6, none⟩ (.bool true)).cell? ⟨br, 0, none⟩ = some (dp bd) ∧ (w.setCell ⟨br, 6, none⟩ (.bool true)).cell? ⟨br, 1, none⟩ = some (lp bl) ∧ (w.setCell ⟨br, 6, none⟩ (.bool true)).cell? ⟨br, 2, none⟩ = some (.int .i64 0) ∧
    In w0 (w.setCell ⟨br, 6, none⟩ (.bool true)) (star (PL bd bl R F G d h) (star (RR br bd bl y.closeX Q) Fr)) := by
  obtain ⟨k, A, n, c, hds, H1⟩ := Ro_open H
  obtain ⟨c0, c1, c2, c3, c4, c5, c6⟩ := Ro_cells H1
  have gY : Good (star (rd (fun w => RdRs w A n c hds y.rows ∧ Q w)) (star (PL bd bl R F G d h) Fr)) := star_good (rd_good _) (star_good (PL_good _ _ _ _ _ _ _) g)
  have H2 := H1.put gY 6 (.bool true)
  obtain ⟨k0, k1, k2, k3, k4, k5, k6⟩ := Ro_cells (y := y.closeX) H2
  exact ⟨c6, Ro_free H1 6, k0, k1, k2, Ro_shut (y := y.closeX) ⟨k.page, k.file⟩ H2⟩
theorem r_close (g : Good Fr) (H : In w0 w (star (PL bd bl R F G d h) (star (RR br bd bl y Q) Fr))) :
    Calls Tryz.prog 43 #[rp_ br] w (CloseP br bd bl R F G d h y Q w0 Fr) := by
  obtain ⟨c6, f6, c0, c1, c2, V⟩ := close_get g H
  cases hc : y.closed with
  | true =>
    have e0 : CloseP br bd bl R F G d h y Q w0 Fr (.returned (.tuple #[])) w := by
      unfold CloseP Rs.closeH
      rw [if_pos hc]
      have : y.closeX = y := by
        obtain ⟨a, b, c, e⟩ := y
        dsimp only at hc
        subst hc
        rfl
      rw [this]
      exact ⟨rfl, H⟩
    have E0 := Lib.hid e0
    rw [hc] at c6
    clear H V e0 hc
    go_enter Tryz.func43, Tryz.ntmps43
    go_wp2
    go_end0
    exact E0.out
  | false =>
    have CG := Lib.hid ((s_give (star_good (RR_good _ _ _ _ _) g) V).mono fun (e : Ending) (w' : World) hh => show e = .returned (.tuple #[]) ∧ CloseP br bd bl R F G d h y Q w0 Fr (.returned (.tuple #[])) w' from by
      obtain ⟨h1, h2⟩ := hh
      refine ⟨h1, ?_⟩
      unfold CloseP Rs.closeH
      rw [if_neg (by rw [hc]; decide)]
      exact ⟨rfl, h2⟩)
    rw [hc] at c6
    clear H V hc
    go_enter Tryz.func43, Tryz.ntmps43
    go_wp2_with (go_at_call 75; (with_reducible refine CG.out.mono ?_); rintro e w1 ⟨rfl, V⟩; have V1 := Lib.hid V; clear V)
    go_end0
    exact V1.out
theorem r_close_d (u : FrameMode) (g : Good Fr) (H : In w0 w (star (PL bd bl R F G d h) (star (RR br bd bl y Q) Fr))) :
    CallsD Tryz.prog 43 #[rp_ br] u w fun e u' w' => u' = u ∧ CloseP br bd bl R F G d h y Q w0 Fr e w' := by
  obtain ⟨c6, f6, c0, c1, c2, V⟩ := close_get g H
  cases hc : y.closed with
  | true =>
    have e0 : CloseP br bd bl R F G d h y Q w0 Fr (.returned (.tuple #[])) w := by
      unfold CloseP Rs.closeH
      rw [if_pos hc]
      have : y.closeX = y := by
        obtain ⟨a, b, c, e⟩ := y
        dsimp only at hc
        subst hc
        rfl
      rw [this]
      exact ⟨rfl, H⟩
    have E0 := Lib.hid e0
    rw [hc] at c6
    clear H V e0 hc
    go_enter_d Tryz.func43, Tryz.ntmps43
    go_wp2
    go_end0
    exact E0.out
  | false =>
    have CG := Lib.hid ((s_give (star_good (RR_good _ _ _ _ _) g) V).mono fun (e : Ending) (w' : World) hh => show e = .returned (.tuple #[]) ∧ CloseP br bd bl R F G d h y Q w0 Fr (.returned (.tuple #[])) w' from by
      obtain ⟨h1, h2⟩ := hh
      refine ⟨h1, ?_⟩
      unfold CloseP Rs.closeH
      rw [if_neg (by rw [hc]; decide)]
      exact ⟨rfl, h2⟩)
    rw [hc] at c6
    clear H V hc
    go_enter_d Tryz.func43, Tryz.ntmps43
    go_wp2_with (go_at_call 75; (with_reducible refine CG.out.mono ?_); rintro e w1 ⟨rfl, V⟩; have V1 := Lib.hid V; clear V)
    go_end0
    exact V1.out
theorem RR_new (g : Good Fr) {n : Int} (hw : (Lit.int .i64 n).wf = true) (H : In w0 w (star (PL bd bl R F G d h) Fr)) : In w0 (w.alloc (rObj bd bl ⟨n, 0, [], false⟩ (.slice none 0 0))) (star (PL bd bl R F G d h) (star (RR w.heap.size bd bl ⟨n, 0, [], false⟩ (fun _ => True)) Fr)) := by
  have gP : Good (star (PL bd bl R F G d h) Fr) := star_good (PL_good _ _ _ _ _ _ _) g
  have H1 := (H.blk gP (rObj bd bl ⟨n, 0, [], false⟩ (.slice none 0 0))).comm
  refine Ro_shut (y := ⟨n, 0, [], false⟩) (hds := []) ⟨Nat.zero_le _, hw⟩ (H1.imp fun S hS => star_mono hS (fun _ => id) (fun S hS => ?_))
  refine ⟨fun _ => False, S, ⟨fun _ h => h.elim, fun W _ => ⟨⟨Nat.le_refl _, by omega, ⟨⟨rfl, by omega, fun h => absurd h (by omega)⟩, rfl, fun i r' hr' => by simp at hr'⟩⟩, trivial⟩⟩, hS, fun _ h => h.elim, fun k => by simp⟩
theorem reader_a (g : Good Fr) (H : In w0 w (star (PL bd bl R F G d h) Fr)) {n : Int} (hw : (Lit.int .i64 n).wf = true) (hf : d.find n = none) :
    Calls Tryz.prog 41 #[pv bd bl, .int .i64 n] w fun e w' => e = .returned (.tuple #[.pointer none, .int .i64 4]) ∧ In w0 w' (star (PL bd bl R F G d h) Fr) := by
  have V := Lib.hid (fun o => in_alloc (star_good (PL_good _ _ _ _ _ _ _) g) H o)
  have CS := (fun W (V : In w0 W (star (PL bd bl R F G d h) Fr)) => s_size (n := n) g V hw)
  rw [hf] at CS
  have CS := Lib.hid CS
  clear H hf
  go_enter Tryz.func41, Tryz.ntmps41
  go_wp2_with (go_at_call 19; (with_reducible refine (CS.out _ (V.out _)).mono ?_); rintro e w1 ⟨rfl, hw1⟩; subst hw1)
  go_ret2
  exact ⟨by trivial, V.out _⟩
theorem reader_b (g : Good Fr) (H : In w0 w (star (PL bd bl R F G d h) Fr)) {n : Int} (hw : (Lit.int .i64 n).wf = true) {l : List Pg} (hf : d.find n = some l) (hE : G ≤ h) :
    Calls Tryz.prog 41 #[pv bd bl, .int .i64 n] w fun e w' => e = .returned (.tuple #[.pointer none, .int .i64 60]) ∧ In w0 w' (star (PL bd bl R F G d h) Fr) := by
  have V := Lib.hid (fun o => in_alloc (star_good (PL_good _ _ _ _ _ _ _) g) H o)
  have CS := (fun W (V : In w0 W (star (PL bd bl R F G d h) Fr)) => s_size (n := n) g V hw)
  rw [hf] at CS
  have CS := Lib.hid CS
  have CT := s_take g (V.out (pbox bd bl))
  rw [if_pos hE, if_pos hE] at CT
  have CT := Lib.hid CT
  clear H hf hE
  go_enter Tryz.func41, Tryz.ntmps41
  go_wp2_with (first
    | (go_at_call 19; (with_reducible refine (CS.out _ (V.out _)).mono ?_); rintro e w1 ⟨rfl, hw1⟩; subst hw1)
    | (go_at_call 73; (with_reducible refine CT.out.mono ?_); rintro e w1 ⟨rfl, V⟩; have V1 := Lib.hid V; clear V CT))
  go_ret2
  exact ⟨by trivial, V1.out⟩
theorem reader_c (g : Good Fr) (H : In w0 w (star (PL bd bl R F G d h) Fr)) {n : Int} (hw : (Lit.int .i64 n).wf = true) {l : List Pg} (hf : d.find n = some l) (hE : ¬ G ≤ h) :
    Calls Tryz.prog 41 #[pv bd bl, .int .i64 n] w fun e w' => ∃ br, e = .returned (.tuple #[rp_ br, .int .i64 0]) ∧ In w0 w' (star (PL bd bl R F G d (h + 1)) (star (RR br bd bl ⟨n, 0, [], false⟩ (fun _ => True)) Fr)) := by
  have V := H.pushB (star_good (PL_good _ _ _ _ _ _ _) g) (pbox bd bl)
  have gB : Good (star (blkR w.heap.size (pbox bd bl)) Fr) := star_good (blkR_good _ _) g
  have CS := s_size (n := n) gB V hw
  rw [hf] at CS
  have CS := Lib.hid CS
  have CT := s_take gB V
  rw [if_neg hE, if_neg hE] at CT
  have CT := Lib.hid CT
  have E0 := Lib.hid (fun W (V : In w0 W (star (PL bd bl R F G d (h + 1)) (star (blkR w.heap.size (pbox bd bl)) Fr))) => RR_new g hw V.drop)
  clear H hf hE V
  go_enter Tryz.func41, Tryz.ntmps41
  go_wp2_with (first
    | (go_at_call 19; (with_reducible refine CS.out.mono ?_); rintro e w1 ⟨rfl, hw1⟩; subst hw1)
    | (go_at_call 73; (with_reducible refine CT.out.mono ?_); rintro e w1 ⟨rfl, V⟩; obtain ⟨k0, k1, k2⟩ := bx_cells V; have V1 := Lib.hid V; clear V CT))
  go_ret2
  exact ⟨_, by trivial, E0.out _ V1.out⟩
end
end Go.Proofs.YtkbapoeilcapfaaGreat

/- spill: Write. -/
namespace Go.Proofs.YtkbapoeilcapfaaGreat
open Go.RowKit Go.Maps
set_option linter.unusedVariables false
set_option linter.unusedSimpArgs false
set_option maxRecDepth 6000

section
variable {w0 w : World} {bd bl : Nat} {R : Int} {F : List Int} {G : Int} {d : Ds} {h : Int} {Fr : Res} {A : Option Addr} {n c : Nat} {hds : List Value} {rows : List (List V)}
/-- A row of rows that stay readable. -/
theorem row_stays {P : World → Prop} {w1 : World} (hw : P w1) (HL : ∀ W, P W → RdL W A n hds rows) {k : Nat} (hk : k < n) : ∃ ad B m cc r, A = some ad ∧ rows[k]? = some r ∧ rows.drop k = r :: rows.drop (k + 1) ∧ ∀ W, P W → W.cell? (ad.add k) = some (.slice B m cc) ∧ RdV W B m r := by
  obtain ⟨ad, B, m, cc, r, e1, e2, e3, e4, e5, e6⟩ := (HL w1 hw).at_ hk
  obtain ⟨hl, e⟩ := List.getElem?_eq_some_iff.1 e3
  refine ⟨ad, B, m, cc, r, e1, e3, by rw [List.drop_eq_getElem_cons hl, e], fun W hW => ?_⟩
  obtain ⟨ad', B', m', cc', r', g1, g2, g3, g4, g5, g6⟩ := (HL W hW).at_ hk
  rw [e4] at g4
  rw [e3] at g3
  injection g4 with g4
  injection g4 with q1 q2 q3
  injection g3 with g3
  rw [e1] at g1
  injection g1 with g1
  subst q1 q2 q3 g3 g1
  exact ⟨g5, g6⟩
def WriteP (bd bl : Nat) (R : Int) (F : List Int) (G : Int) (d : Ds) (h : Int) (rows : List (List V)) (w0 : World) (Fr : Res) (e : Ending) (w' : World) : Prop :=
  e = .returned (.tuple #[.int .i64 (writeS R F G d h rows).n, .int .i64 (writeS R F G d h rows).e]) ∧ In w0 w' (star (PL bd bl R F G (writeS R F G d h rows).d h) Fr)
theorem write_a (g : Good Fr) (H : In w0 w (star (PL bd bl R F G d h) Fr)) (hm : d.made ≤ 1000000000) (hE : wrE G d h ≠ 0) :
    Calls Tryz.prog 13 #[pv bd bl, .slice A n c] w (WriteP bd bl R F G d h rows w0 Fr) := by
  have es : writeS R F G d h rows = ⟨0, wrE G d h, d⟩ := if_pos hE
  have H1 : ∀ o, In w0 (w.alloc o) (star (PL bd bl R F G d h) Fr) := fun o => in_alloc (star_good (PL_good _ _ _ _ _ _ _) g) H o
  have CW : ∀ o, Calls Tryz.prog 37 #[pv bd bl] (w.alloc o) fun e w' => e = .returned (.tuple #[.pointer none, .int .i64 (wrE G d h)]) ∧ In w0 w' (star (PL bd bl R F G d h) Fr) := by
    intro o
    unfold wrE at hE ⊢
    by_cases hG : G ≤ h
    · rw [if_pos hG]
      exact writer_a g (H1 o) hG
    · rw [if_neg hG] at hE ⊢
      exact writer_b g (H1 o) hG hm hE
  have CW := Lib.hid fun o => (CW o).mono fun e w' hh => show e = .returned (.tuple #[.pointer none, .int .i64 (wrE G d h)]) ∧ WriteP bd bl R F G d h rows w0 Fr (.returned (.tuple #[.int .i64 0, .int .i64 (wrE G d h)])) w' from by
    refine ⟨hh.1, ?_⟩
    unfold WriteP
    rw [es]
    exact ⟨rfl, hh.2⟩
  have hE1 : (wrE G d h != 0) = true := by simpa using hE
  obtain ⟨E, hEE⟩ : ∃ E, E = wrE G d h := ⟨_, rfl⟩
  rw [← hEE] at CW hE1
  clear H H1 hE es hEE hm
  go_enter Tryz.func13, Tryz.ntmps13
  go_wp2_with (go_at_call 37; (with_reducible refine (CW.out _).mono ?_); rintro e w1 ⟨rfl, V⟩; have V1 := Lib.hid V; clear V)
  go_ret2
  exact V1.out
/-- A state of Write's loop. -/
structure WSt (w0 wr : World) (bd bl bw : Nat) (R : Int) (F : List Int) (G : Int) (d0 : Ds) (h : Int) (rows : List (List V)) (Fr : Res) (k : Nat) (d : Ds) (x : Ws) (N : Int) : Prop where
  inn : In w0 wr (star (PL bd bl R F G d (h + 1)) (star (WR bw bd bl x) Fr))
  eqn : putAll R F d0.create (wrX d0) rows = putAll R F d x (rows.drop k)
  le : d.le (N + 1 + k)
  num : x.n ≤ k
  opn : x.ended = false
set_option maxHeartbeats 1000000 in
theorem write_b (g : Good Fr) (H : In w0 w (star (PL bd bl R F G d h) Fr)) (HL : ∀ W, In w0 W Fr → RdL W A n hds rows) {N : Int} (hN : d.le N) (hb : N + 2 + n ≤ 1000000000) (hn : n ≤ 900000) (hE : wrE G d h = 0) :
    Calls Tryz.prog 13 #[pv bd bl, .slice A n c] w (WriteP bd bl R F G d h rows w0 Fr) := by
  have hlen := (HL _ H.right).len
  have hG : ¬ G ≤ h := by unfold wrE at hE; intro hG; rw [if_pos hG] at hE; cases hE
  have hC : d.createE = 0 := by unfold wrE at hE; rw [if_neg hG] at hE; exact hE
  have h0 := (PL_ok H).2.1
  have H1 := in_alloc (star_good (PL_good _ _ _ _ _ _ _) g) H (pbox bd bl)
  have CW := Lib.hid ((writer_c g H1 hG (by have := hN.1; omega) hC).mono fun (e : Ending) (w' : World) hh => show ∃ bw, e = .returned (.tuple #[wp_ bw, .int .i64 0]) ∧ WSt w0 w' bd bl bw R F G d h rows Fr 0 d.create (wrX d) N from by
    obtain ⟨bw, h1, h2⟩ := hh
    exact ⟨bw, h1, h2, rfl, by simpa using le_create hN, by unfold wrX; simp, rfl⟩)
  have HR := Lib.hid (fun W (V : In w0 W Fr) (k : Nat) (hk : k < n) => row_stays (P := fun W => In w0 W Fr) V HL hk)
  have es : writeS R F G d h rows = if (putAll R F d.create (wrX d) rows).e ≠ 0 then ⟨0, (putAll R F d.create (wrX d) rows).e, (putAll R F d.create (wrX d) rows).x.dropD (putAll R F d.create (wrX d) rows).d⟩
    else ⟨(putAll R F d.create (wrX d) rows).x.doneN R F (putAll R F d.create (wrX d) rows).d, (putAll R F d.create (wrX d) rows).x.doneE R F (putAll R F d.create (wrX d) rows).d, (putAll R F d.create (wrX d) rows).x.doneD R F (putAll R F d.create (wrX d) rows).d⟩ := by
    unfold writeS
    rw [if_neg (by rw [hE]; decide)]
  have ES := Lib.hid es
  have h0 := Lib.hid h0
  have hn64 : n ≤ 9223372036854775807 := by omega
  have hlen := Lib.hid hlen
  clear H H1 hE hG hC es HL hN
  go_enter Tryz.func13, Tryz.ntmps13
  go_wp2_with (go_at_call 37; (with_reducible refine CW.out.mono ?_); rintro e w1 ⟨bw, rfl, V⟩; have V1 := Lib.hid V; clear V CW)
  go_loopw [21] (fun i wr => ∃ (k : Nat) (d' : Ds) (x : Ws), k ≤ n ∧ i = .int .i64 (k : Int) ∧ Hid (WSt w0 wr bd bl bw R F G d h rows Fr k d' x N)) (fun i _ => n - (intOf i).toNat)
  case atStart => exact ⟨0, _, _, by omega, rfl, V1⟩
  case round =>
    clear V1
    obtain ⟨k, d', x, hk, rfl, HS⟩ := hrel
    have hle := HS.out.le
    have hnum := HS.out.num
    have hd1 : d'.deeds ≤ 1000000000 := by have := hle.2; omega
    by_cases hlt : k < n
    · obtain ⟨ad, B, m, cc, r, rfl, hr, hdrop, hst⟩ := HR.out _ HS.out.inn.right.right k hlt
      have hcell := (hst _ HS.out.inn.right.right).1
      have CP := w_put (cc := cc) g HS.out.inn (fun W hW => (hst W hW).2) hd1 (by omega)
      by_cases hpe : x.putE R F d' r = 0
      · have CP := Lib.hid (CP.mono fun (e : Ending) (w' : World) hh => show e = .returned (.int .i64 0) ∧ WSt w0 w' bd bl bw R F G d h rows Fr (k + 1) (x.putD R F d' r) (x.putX R F d' r) N from by
          obtain ⟨h1, h2⟩ := hh
          rw [hpe] at h1
          have h3 := put_n (R := R) (F := F) (d := d') (x := x) (r := r)
          refine ⟨h1, h2, ?_, ?_, ?_, by rw [h3.2.2]; exact HS.out.opn⟩
          · rw [HS.out.eqn, hdrop]
            conv => lhs; unfold putAll
            rw [if_pos hpe]
          · exact (le_put hle).mono (by omega)
          · have := h3.1; omega)
        clear hpe hst hdrop hr hle hnum hd1
        go_wp2_with (go_at_call 38; (with_reducible refine CP.out.mono ?_); rintro e w2 ⟨rfl, V⟩; have V2 := Lib.hid V; clear V CP)
        go_roundw
        case measure => simp [intOf]; omega
        case rel => exact ⟨k + 1, _, _, by omega, by go_num, V2⟩
      · have e1 : putAll R F d.create (wrX d) rows = ⟨x.putE R F d' r, x.putD R F d' r, x.putX R F d' r⟩ := by
          rw [HS.out.eqn, hdrop]
          conv => lhs; unfold putAll
          rw [if_neg hpe]
        have hxo : (x.putX R F d' r).ended = false := by rw [(put_n (R := R) (F := F) (d := d') (x := x) (r := r)).2.2]; exact HS.out.opn
        have CP := Lib.hid (CP.mono fun (e : Ending) (w' : World) hh => show e = .returned (.int .i64 (x.putE R F d' r)) ∧ In w0 w' (star (PL bd bl R F G (x.putD R F d' r) (h + 1)) (star (WR bw bd bl (x.putX R F d' r)) Fr)) from hh)
        have CD := Lib.hid (fun W (V : In w0 W (star (PL bd bl R F G (x.putD R F d' r) (h + 1)) (star (WR bw bd bl (x.putX R F d' r)) Fr))) => (w_drop g V).mono fun (e : Ending) (w' : World) hh => show e = .returned (.tuple #[]) ∧ WriteP bd bl R F G d h rows w0 Fr (.returned (.tuple #[.int .i64 0, .int .i64 (x.putE R F d' r)])) w' from by
          obtain ⟨h1, h2⟩ := hh
          refine ⟨h1, ?_⟩
          unfold WriteP
          rw [ES.out, e1, if_pos hpe]
          have eh : (x.putX R F d' r).endH (h + 1) = h := by unfold Ws.endH; rw [if_neg (by rw [hxo]; decide), giveH_up h0.out]
          rw [eh] at h2
          exact ⟨rfl, h2.drop⟩)
        have hpe1 : (x.putE R F d' r != 0) = true := by simpa using hpe
        obtain ⟨E, hEE⟩ : ∃ E, E = x.putE R F d' r := ⟨_, rfl⟩
        rw [← hEE] at CP CD hpe1
        clear hpe hst hdrop hr e1 hxo hEE hle hnum hd1
        go_wp2_with (first
          | (go_at_call 38; (with_reducible refine CP.out.mono ?_); rintro e w2 ⟨rfl, V⟩; have V2 := Lib.hid V; clear V CP)
          | (go_at_call 47; (with_reducible refine (CD.out _ V2.out).mono ?_); rintro e w3 ⟨rfl, V⟩; have V3 := Lib.hid V; clear V CD))
        go_ret2
        exact V3.out
    · have hkn : k = n := by omega
      subst hkn
      have e1 : putAll R F d.create (wrX d) rows = ⟨0, d', x⟩ := by
        rw [HS.out.eqn, List.drop_of_length_le (by rw [hlen.out]; exact Nat.le_refl _)]
        rfl
      have CD := Lib.hid ((w_done g HS.out.inn hd1).mono fun (e : Ending) (w' : World) hh => show e = .returned (.tuple #[.int .i64 (x.doneN R F d'), .int .i64 (x.doneE R F d')]) ∧ WriteP bd bl R F G d h rows w0 Fr (.returned (.tuple #[.int .i64 (x.doneN R F d'), .int .i64 (x.doneE R F d')])) w' from by
        obtain ⟨h1, h2⟩ := hh
        refine ⟨h1, ?_⟩
        unfold WriteP
        rw [ES.out, e1, if_neg (show ¬ (0 : Int) ≠ 0 by decide)]
        have eh : x.endH (h + 1) = h := by unfold Ws.endH; rw [if_neg (by rw [HS.out.opn]; decide), giveH_up h0.out]
        rw [eh] at h2
        exact ⟨rfl, h2.drop⟩)
      clear e1 hle hnum hd1
      go_wp2_with (go_at_call 40; (with_reducible refine CD.out.mono ?_); rintro e w2 ⟨rfl, V⟩; have V2 := Lib.hid V; clear V CD)
      go_ret2
      exact V2.out
theorem s_write (g : Good Fr) (H : In w0 w (star (PL bd bl R F G d h) Fr)) (HL : ∀ W, In w0 W Fr → RdL W A n hds rows) {N : Int} (hN : d.le N) (hb : N + 2 + n ≤ 1000000000) (hn : n ≤ 900000) :
    Calls Tryz.prog 13 #[pv bd bl, .slice A n c] w (WriteP bd bl R F G d h rows w0 Fr) := by
  by_cases hE : wrE G d h = 0
  · exact write_b g H HL hN hb hn hE
  · exact write_a g H (by have := hN.1; omega) hE
end
end Go.Proofs.YtkbapoeilcapfaaGreat

/- spill: All. -/
namespace Go.Proofs.YtkbapoeilcapfaaGreat
open Go.RowKit Go.Maps
set_option linter.unusedVariables false
set_option linter.unusedSimpArgs false
set_option maxRecDepth 6000

/-- Headers of rows that can be read. -/
def RdAcc (w : World) (hds : List Value) (acc : List (List V)) : Prop := hds.length = acc.length ∧ ∀ (i : Nat) r, acc[i]? = some r → ∃ B m c, hds[i]? = some (Value.slice B m c) ∧ RdV w B m r
theorem RdAcc.snoc {w : World} {hds : List Value} {acc : List (List V)} {B : Option Addr} {m c : Nat} {r : List V} (h : RdAcc w hds acc) (hr : RdV w B m r) : RdAcc w (hds ++ [.slice B m c]) (acc ++ [r]) := by
  refine ⟨by simp [h.1], fun i q hq => ?_⟩
  rcases Nat.lt_or_ge i acc.length with hl | hl
  · rw [List.getElem?_append_left hl] at hq
    obtain ⟨B', m', c', e1, e2⟩ := h.2 i q hq
    exact ⟨B', m', c', by rw [List.getElem?_append_left (by rw [h.1]; exact hl)]; exact e1, e2⟩
  · rw [List.getElem?_append_right hl] at hq
    have hi : i - acc.length = 0 := by
      have := (List.getElem?_eq_some_iff.1 hq).1
      simp at this
      omega
    rw [hi] at hq
    obtain rfl : r = q := by simpa using hq
    refine ⟨B, m, c, ?_, hr⟩
    rw [List.getElem?_append_right (by rw [h.1]; exact hl), h.1, hi]
    rfl
section
variable {w0 w : World} {bd bl br : Nat} {R : Int} {F : List Int} {G : Int} {d : Ds} {h : Int} {y : Rs} {Q Q' : World → Prop} {Fr A X : Res}
theorem RR_imp (H : In w0 w (star A (star (RR br bd bl y Q) X))) (hi : ∀ w, Q w → Q' w) : In w0 w (star A (star (RR br bd bl y Q') X)) :=
  H.imp fun S h => star_mono h (fun _ => id) (fun S h => star_mono h (fun S ⟨k, A, n, c, hds, h⟩ => ⟨k, A, n, c, hds, star_mono h (fun _ => id) (fun _ h => rd_imp h fun w q => ⟨q.1, hi w q.2⟩)⟩) (fun _ => id))
/-- What a reader knows of rows that it has handed out. -/
theorem RR_rd (H : In w0 w (star A (star (RR br bd bl y Q) X))) : In w0 w (star A (star (rd Q) X)) := by
  obtain ⟨⟨S, ⟨S1, S2, ⟨k, B, n, c, hds, h1⟩, h2, hd, hs⟩, hge⟩, hb⟩ := H.swap
  have H1 : In w0 w (star (star (blkR br (rObj bd bl y (.slice B n c))) (rd (fun w => RdRs w B n c hds y.rows ∧ Q w))) (star A X)) := ⟨⟨S, ⟨S1, S2, h1, h2, hd, hs⟩, hge⟩, hb⟩
  exact (H1.assoc.right.imp fun S h => star_mono h (fun _ h => rd_imp h fun w q => q.2) (fun _ => id)).swap
theorem In.nilrow {e : TypeId} (H : In w0 w (star A X)) : In w0 w (star A (star (rowR e 1 (.slice none 0 0) 0 []) X)) :=
  H.imp fun S h => star_mono h (fun _ => id) (fun S h => ⟨fun _ => False, S, ⟨⟨rfl, .inl ⟨rfl, rfl⟩⟩, by funext k; simp [Value.ownBlock]⟩, h, fun _ h => h.elim, fun k => by simp⟩)
theorem acc_rdl {B : Option Addr} {n c : Nat} {hds : List Value} {acc : List (List V)} {W : World} (h1 : RdAcc W hds acc) (h2 : W.ownsRow 0 25 1 (.slice B n c) n hds) : RdL W B n hds acc := by
  have h3 := (Rd1.of_own h2).2
  exact ⟨h3, by rw [← h1.1]; exact h3.1, h1.2⟩
theorem acc_rd {B : Option Addr} {n c : Nat} {hds : List Value} {acc : List (List V)} (H : In w0 w (star A (star (RR br bd bl y (fun W => RdAcc W hds acc)) (star (rowR 25 1 (.slice B n c) n hds) X)))) :
    In w0 w (star A (star (rd (fun W => RdL W B n hds acc)) X)) := by
  have H1 := (RR_rd H).imp fun S h => star_mono h (fun _ => id) (fun S h => star_mono (star_assoc' h) (fun S h => rd_imp (rd_and (star_mono h (fun _ => id) (fun _ h => rowR_rd h))) fun W q => acc_rdl (c := c) q.1 q.2) (fun _ => id))
  exact H1
def AllP (bd bl : Nat) (R : Int) (F : List Int) (G : Int) (z : Rt) (h : Int) (w0 : World) (Fr : Res) (e : Ending) (w' : World) : Prop :=
  if z.e ≠ 0 then e = .returned (.tuple #[.slice none 0 0, .int .i64 z.e]) ∧ In w0 w' (star (PL bd bl R F G z.d h) Fr)
  else ∃ B c hds, e = .returned (.tuple #[.slice B z.l.length c, .int .i64 0]) ∧ In w0 w' (star (PL bd bl R F G z.d h) (star (rd (fun W => RdL W B z.l.length hds z.l)) Fr))
theorem all_no (g : Good Fr) (H : In w0 w (star (PL bd bl R F G d h) Fr)) {n : Int} (hw : (Lit.int .i64 n).wf = true) (hE : rrE G d h n ≠ 0) :
    Calls Tryz.prog 16 #[pv bd bl, .int .i64 n] w fun e w' => e = .returned (.tuple #[.slice none 0 0, .int .i64 (rrE G d h n)]) ∧ In w0 w' (star (PL bd bl R F G d h) Fr) := by
  have H1 := in_alloc (star_good (PL_good _ _ _ _ _ _ _) g) H (pbox bd bl)
  have CR : Calls Tryz.prog 41 #[pv bd bl, .int .i64 n] (w.alloc (pbox bd bl)) fun e w' => e = .returned (.tuple #[.pointer none, .int .i64 (rrE G d h n)]) ∧ In w0 w' (star (PL bd bl R F G d h) Fr) := by
    unfold rrE at hE ⊢
    cases hf : d.find n with
    | none =>
      rw [if_pos (by rfl)]
      exact reader_a g H1 hw hf
    | some l =>
      rw [hf, if_neg (by simp)] at hE
      rw [if_neg (by simp)]
      by_cases hG : G ≤ h
      · rw [if_pos hG]
        exact reader_b g H1 hw hf hG
      · rw [if_neg hG] at hE
        exact absurd rfl hE
  have CR := Lib.hid CR
  have hE1 : (rrE G d h n != 0) = true := by simpa using hE
  obtain ⟨E, hEE⟩ : ∃ E, E = rrE G d h n := ⟨_, rfl⟩
  rw [← hEE] at CR hE1 ⊢
  clear H H1 hE hEE hw
  go_enter_defers Tryz.func16, Tryz.ntmps16
  go_wp2_with (go_at_call 41; (with_reducible refine CR.out.mono ?_); rintro e w1 ⟨rfl, V⟩; have V1 := Lib.hid V; clear V)
  refine ⟨_, results_tmp2 rfl _ _ _, ?_⟩
  exact ⟨rfl, V1.out⟩
/-- A state of All's loop. -/
structure ASt (w0 wr : World) (bd bl br : Nat) (R : Int) (F : List Int) (G : Int) (z : Rt) (h : Int) (Fr : Res) (M k : Nat) (v : Value) (hds : List Value) (acc : List (List V)) (d : Ds) (y : Rs) (N : Int) : Prop where
  inn : In w0 wr (star (PL bd bl R F G d (h + 1)) (star (RR br bd bl y (fun W => RdAcc W hds acc)) (star (rowR 25 1 v k hds) Fr)))
  eqn : z = ⟨(readS F (leftN d y + 1) d y).e, (readS F (leftN d y + 1) d y).d, (readS F (leftN d y + 1) d y).y, acc ++ (readS F (leftN d y + 1) d y).l⟩
  left : k + leftN d y = M
  len : acc.length = k
  le : d.le (N + k)
  opn : y.closed = false
theorem readS_some {d : Ds} {y : Rs} {r : List V} (h : (y.next F d).row = some r) : readS F (leftN d y + 1) d y = ⟨(readS F (leftN (y.next F d).d (y.next F d).x + 1) (y.next F d).d (y.next F d).x).e, (readS F (leftN (y.next F d).d (y.next F d).x + 1) (y.next F d).d (y.next F d).x).d, (readS F (leftN (y.next F d).d (y.next F d).x + 1) (y.next F d).d (y.next F d).x).y, r :: (readS F (leftN (y.next F d).d (y.next F d).x + 1) (y.next F d).d (y.next F d).x).l⟩ := by
  rw [next_left h]
  conv => lhs; unfold readS
  rw [h]
theorem readS_none {d : Ds} {y : Rs} (f : Nat) (h : (y.next F d).row = none) : readS F (f + 1) d y = ⟨(y.next F d).e, (y.next F d).d, (y.next F d).x, []⟩ := by
  conv => lhs; unfold readS
  rw [h]
set_option maxHeartbeats 1000000 in
theorem all_yes (g : Good Fr) (H : In w0 w (star (PL bd bl R F G d h) Fr)) {n : Int} (hw : (Lit.int .i64 n).wf = true) (hE : rrE G d h n = 0) {N : Int} (hN : d.le N) (hb : N + 3000000 ≤ 1000000000) :
    Calls Tryz.prog 16 #[pv bd bl, .int .i64 n] w (AllP bd bl R F G (allS F d n) h w0 Fr) := by
  have H1 := in_alloc (star_good (PL_good _ _ _ _ _ _ _) g) H (pbox bd bl)
  obtain ⟨K, h0, _⟩ := PL_ok H
  obtain ⟨M, hM⟩ : ∃ M, M = leftN d (rs0 n) := ⟨_, rfl⟩
  have hMb : M ≤ 3000000 := by rw [hM]; exact left_le K (by simp)
  obtain ⟨z, hz⟩ : ∃ z, z = allS F d n := ⟨_, rfl⟩
  have CR : Calls Tryz.prog 41 #[pv bd bl, .int .i64 n] (w.alloc (pbox bd bl)) fun e w' => ∃ br, e = .returned (.tuple #[rp_ br, .int .i64 0]) ∧ ASt w0 w' bd bl br R F G z h Fr M 0 (.slice none 0 0) [] [] d (rs0 n) N := by
    unfold rrE at hE
    cases hf : d.find n with
    | none => rw [hf] at hE; cases hE
    | some l =>
      rw [hf, if_neg (by simp)] at hE
      have hG : ¬ G ≤ h := fun hG => by rw [if_pos hG] at hE; cases hE
      refine (reader_c g H1 hw hf hG).mono fun e w' hh => ?_
      obtain ⟨br, h1, h2⟩ := hh
      refine ⟨br, h1, ?_, ?_, by rw [hM]; simp, rfl, by simpa using hN, rfl⟩
      · have h3 := RR_imp (Q' := fun W => RdAcc W [] []) h2 (fun w _ => ⟨rfl, fun i r hr => by simp at hr⟩)
        exact (h3.assoc'.nilrow).assoc
      · rw [hz]
        rfl
  have CR := Lib.hid CR
  rw [← hz]
  clear H H1 hE hw hN hz hM K
  have h0 := Lib.hid h0
  go_enter_defers Tryz.func16, Tryz.ntmps16
  go_wp2_with (go_at_call 41; (with_reducible refine CR.out.mono ?_); rintro e w1 ⟨br, rfl, V⟩; have V1 := Lib.hid V; clear V CR)
  go_loopw [8] (fun v wr => ∃ (k : Nat) (B : Option Addr) (c : Nat) (hds : List Value) (acc : List (List V)) (d' : Ds) (y : Rs), k ≤ M ∧ v = .slice B k c ∧ Hid (ASt w0 wr bd bl br R F G z h Fr M k (.slice B k c) hds acc d' y N)) (fun v _ => M - lenOf v)
  case atStart => exact ⟨0, _, _, _, _, _, _, by omega, rfl, V1⟩
  case round =>
    clear V1
    obtain ⟨k, B, c, hds, acc, d', y, hk, rfl, HS⟩ := hrel
    have hle := HS.out.le
    have hd1 : d'.deeds ≤ 1000000000 := by have := hle.2; omega
    cases hr : (y.next F d').row with
    | some r =>
      have hlt : k < M := by
        have h1 := HS.out.left
        have h2 := next_left hr
        omega
      have gR : Good (star (rowR 25 1 (.slice B k c) k hds) Fr) := star_good (rowR_good _ _ _ _ _) g
      have CN := Lib.hid ((r_next_some gR HS.out.inn hd1 hr).mono fun (e : Ending) (w' : World) hh => show ∃ B2 m2 c2, e = .returned (.tuple #[.slice B2 m2 c2, .bool true, .int .i64 0]) ∧ In w0 w' (star (rowR 25 1 (.slice B k c) k hds) (star (PL bd bl R F G (y.next F d').d (h + 1)) (star (RR br bd bl (y.next F d').x (fun W => RdAcc W (hds ++ [.slice B2 m2 c2]) (acc ++ [r]))) Fr))) from by
        obtain ⟨B2, m2, c2, h1, h2⟩ := hh
        have h3 := RR_imp (Q' := fun W => RdAcc W (hds ++ [.slice B2 m2 c2]) (acc ++ [r])) h2 (fun w q => q.1.snoc q.2)
        exact ⟨B2, m2, c2, h1, (h3.imp fun S h => star_mono h (fun _ => id) (fun _ h => star_swap h)).swap⟩)
      have HE := Lib.hid (fun (W : World) (B2 : Option Addr) (m2 c2 : Nat) (v1 : Value) (V : In w0 W (star (rowR 25 1 v1 (k + 1) (hds ++ [.slice B2 m2 c2])) (star (PL bd bl R F G (y.next F d').d (h + 1)) (star (RR br bd bl (y.next F d').x (fun W => RdAcc W (hds ++ [.slice B2 m2 c2]) (acc ++ [r]))) Fr)))) =>
        show ASt w0 W bd bl br R F G z h Fr M (k + 1) v1 (hds ++ [.slice B2 m2 c2]) (acc ++ [r]) (y.next F d').d (y.next F d').x N from
        ⟨V.swap.imp fun S h => star_mono h (fun _ => id) (fun _ h => star_swap h), by rw [HS.out.eqn, readS_some hr]; simp, by have h1 := HS.out.left; have h2 := next_left hr; omega, by simp [HS.out.len], (le_next hle).mono (by omega), by rw [next_closed]; exact HS.out.opn⟩)
      have gX : Good (star (PL bd bl R F G (y.next F d').d (h + 1)) (star (RR br bd bl (y.next F d').x (fun W => True)) Fr)) := star_good (PL_good _ _ _ _ _ _ _) (star_good (RR_good _ _ _ _ _) g)
      have GX := Lib.hid (fun (B2 : Option Addr) (m2 c2 : Nat) => (star_good (PL_good _ _ _ _ _ _ _) (star_good (RR_good _ _ _ _ _) g) : Good (star (PL bd bl R F G (y.next F d').d (h + 1)) (star (RR br bd bl (y.next F d').x (fun W => RdAcc W (hds ++ [.slice B2 m2 c2]) (acc ++ [r]))) Fr))))
      clear hr gR gX hle hd1 HS
      go_wp2_with (first
        | (go_at_call 42; (with_reducible refine CN.out.mono ?_); rintro e w2 ⟨B2, m2, c2, rfl, V⟩; have HO := Lib.hid (V.left.get fun S h => h.1); have V2 := Lib.hid V; clear V CN)
        | (at_builtin; refine wp_append1 (W := w2) 0 rfl (.tmp 34) (.tmp 36) 23 25 (.slice none 0 0) 1 24 rfl Tryz.underlying23 info_L rfl (by omega) (by omega) (.slice B k c) k _ [.slice B2 m2 c2] rfl rfl (by simp) rfl (by simp [Value.oneCell']) HO.out (by omega) (by omega) ?_; intro v1 w3 h3 t3 hor; obtain ⟨B3, c3, rfl⟩ := own_slice h3; have V3 := Lib.hid (HE.out _ _ _ _ _ (V2.out.grow (GX.out _ _ _) h3 t3 hor)); clear V2 HO h3 t3 hor HE GX))
      go_roundw
      case measure => simp [lenOf]; omega
      case rel => exact ⟨k + 1, _, _, _, _, _, _, by omega, by rfl, V3⟩
    | none =>
      have ez : z = ⟨(y.next F d').e, (y.next F d').d, (y.next F d').x, acc⟩ := by
        rw [HS.out.eqn, readS_none _ hr]
        simp
      have hl := HS.out.len
      have hop : (y.next F d').x.closed = false := by rw [next_closed]; exact HS.out.opn
      have gR : Good (star (rowR 25 1 (.slice B k c) k hds) Fr) := star_good (rowR_good _ _ _ _ _) g
      have CN := Lib.hid ((r_next_none gR HS.out.inn hd1 hr).mono fun (e : Ending) (w' : World) hh => show e = .returned (.tuple #[.slice none 0 0, .bool false, .int .i64 (y.next F d').e]) ∧ In w0 w' (star (PL bd bl R F G (y.next F d').d (h + 1)) (star (RR br bd bl (y.next F d').x (fun W => RdAcc W hds acc)) (star (rowR 25 1 (.slice B k c) k hds) Fr))) from hh)
      have CC := Lib.hid (fun W (V : In w0 W (star (PL bd bl R F G (y.next F d').d (h + 1)) (star (RR br bd bl (y.next F d').x (fun W => RdAcc W hds acc)) (star (rowR 25 1 (.slice B k c) k hds) Fr)))) => (r_close_d .returning gR V).mono fun (e : Ending) u' (w' : World) hh => show u' = FrameMode.returning ∧ e = .returned (.tuple #[]) ∧ In w0 w' (star (PL bd bl R F G (y.next F d').d h) (star (RR br bd bl (y.next F d').x.closeX (fun W => RdAcc W hds acc)) (star (rowR 25 1 (.slice B k c) k hds) Fr))) from by
        obtain ⟨h1, h2, h3⟩ := hh
        have eh : (y.next F d').x.closeH (h + 1) = h := by unfold Rs.closeH; rw [if_neg (by rw [hop]; decide), giveH_up h0.out]
        rw [eh] at h3
        exact ⟨h1, h2, h3⟩)
      by_cases he : (y.next F d').e = 0
      · have EF := Lib.hid (fun (w' : World) (V : In w0 w' (star (PL bd bl R F G (y.next F d').d h) (star (RR br bd bl (y.next F d').x.closeX (fun W => RdAcc W hds acc)) (star (rowR 25 1 (.slice B k c) k hds) Fr)))) => show AllP bd bl R F G z h w0 Fr (.returned (.tuple #[.slice B k c, .int .i64 0])) w' from by
          unfold AllP
          rw [ez]
          rw [if_neg (show ¬ (y.next F d').e ≠ 0 by simpa using he)]
          refine ⟨B, c, hds, by rw [hl], ?_⟩
          have h4 := acc_rd V
          dsimp only
          rw [hl]
          exact h4)
        rw [he] at CN
        clear hr ez he hl hop gR hle hd1 HS
        go_wp2_with (go_at_call 42; (with_reducible refine CN.out.mono ?_); rintro e w2 ⟨rfl, V⟩; have V2 := Lib.hid V; clear V CN)
        refine leaves_cons (f := 43) (args := #[rp_ br]) (by simp) (by simp [go_sem]) ?_
        refine (CC.out _ V2.out).mono ?_
        rintro e u' w3 ⟨rfl, rfl, P⟩
        refine ⟨_, results_tmp2 rfl _ _ _, ?_⟩
        exact EF.out _ P
      · have EF := Lib.hid (fun (w' : World) (V : In w0 w' (star (PL bd bl R F G (y.next F d').d h) (star (RR br bd bl (y.next F d').x.closeX (fun W => RdAcc W hds acc)) (star (rowR 25 1 (.slice B k c) k hds) Fr)))) => show AllP bd bl R F G z h w0 Fr (.returned (.tuple #[.slice none 0 0, .int .i64 (y.next F d').e])) w' from by
          unfold AllP
          rw [ez]
          rw [if_pos (show (y.next F d').e ≠ 0 from he)]
          exact ⟨rfl, V.drop.drop⟩)
        have he1 : ((y.next F d').e != 0) = true := by simpa using he
        obtain ⟨E, hEE⟩ : ∃ E, E = (y.next F d').e := ⟨_, rfl⟩
        rw [← hEE] at CN he1 EF
        clear hr ez he hl hop gR hEE hle hd1 HS
        go_wp2_with (go_at_call 42; (with_reducible refine CN.out.mono ?_); rintro e w2 ⟨rfl, V⟩; have V2 := Lib.hid V; clear V CN)
        refine leaves_cons (f := 43) (args := #[rp_ br]) (by simp) (by simp [go_sem]) ?_
        refine (CC.out _ V2.out).mono ?_
        rintro e u' w3 ⟨rfl, rfl, P⟩
        refine ⟨_, results_tmp2 rfl _ _ _, ?_⟩
        exact EF.out _ P
end
end Go.Proofs.YtkbapoeilcapfaaGreat

/- spill: Make, Clean, Remove. -/
namespace Go.Proofs.YtkbapoeilcapfaaGreat
open Go.RowKit Go.Maps
set_option linter.unusedVariables false
set_option linter.unusedSimpArgs false
set_option maxRecDepth 6000

section
variable {w0 w : World} {bd bl br : Nat} {R : Int} {F : List Int} {G : Int} {d : Ds} {h : Int} {Fr X : Res}
theorem PL_new (h0 : 0 ≤ R) (h1 : R ≤ 16384) (g0 : 0 ≤ G) (g1 : G ≤ 16384) (H : In w0 w (star (LR bl (Ls.new G)) (star (DR bd R F Ds.new) Fr))) : In w0 w (star (PL bd bl R F G Ds.new 0) Fr) :=
  PL_shut (pk := 0) (mo := 0) (SOk.new h0 h1) (LOk.new g0 g1) H
theorem m_disk (g : Good Fr) (H : In w0 w Fr) {A : Option Addr} {k c : Nat} (HR : RdI w A k F) (h0 : 0 ≤ R) (h1 : R ≤ 16384) :
    Calls Tryz.prog 45 #[.int .i64 R, .slice A k c] w fun e w' => ∃ bd, e = .returned (.tuple #[dp bd, .int .i64 0]) ∧ In w0 w' (star (DR bd R F Ds.new) Fr) := by
  refine (dnew_yes h0 h1 HR).mono fun e w' hh => ?_
  obtain ⟨bd, e1, S', k1, k2, k3⟩ := hh
  refine ⟨bd, e1, ?_⟩
  refine H.ch fun S hS => ?_
  have hb : Below w.heap.size w w' := k2.below (Nat.le_refl _) (fun k hk => hk.elim)
  have hge : ∀ k, S' k → w.heap.size ≤ k := fun k hk => (k3 k hk).elim (fun h => h.elim) id
  refine ⟨fun k => S' k ∨ S k, ⟨S', S, k1, g.turn hS (Turn.of_below hb (fun _ => False)) (fun _ _ => id), ?_, fun k => Iff.rfl⟩, Turn.of_below hb S, ?_⟩
  · intro k a b
    have := g.lt hS k b
    have := hge k a
    omega
  · rintro k (a | a)
    · exact .inr (hge k a)
    · exact .inl a
theorem make_yes (g : Good Fr) (H : In w0 w Fr) {A : Option Addr} {k c : Nat} (HR : ∀ W, In w0 W Fr → RdI W A k F) (h0 : 0 ≤ R) (h1 : R ≤ 16384) (g0 : 0 ≤ G) (g1 : G ≤ 16384) :
    Calls Tryz.prog 10 #[.int .i64 R, .slice A k c, .int .i64 G] w fun e w' => ∃ bd bl, e = .returned (.tuple #[pv bd bl, .bool true]) ∧ In w0 w' (star (PL bd bl R F G Ds.new 0) Fr) := by
  have V0 : In w0 (w.alloc (.cells #[.pointer none, .pointer none, .int .i64 0] 29)) (star Fr (blkR w.heap.size (.cells #[.pointer none, .pointer none, .int .i64 0] 29 (0, 0)))) := H.blk g _
  have gF : Good (star Fr (blkR w.heap.size (.cells #[.pointer none, .pointer none, .int .i64 0] 29 (0, 0)))) := star_good g (blkR_good _ _)
  have CD := Lib.hid (m_disk (c := c) gF V0 (HR _ V0.left) h0 h1)
  have CL := Lib.hid (fun bd W (V : In w0 W (star (DR bd R F Ds.new) (star Fr (blkR w.heap.size (.cells #[.pointer none, .pointer none, .int .i64 0] 29 (0, 0)))))) => (r_new (star_good (DR_good _ _ _ _) gF) V g0 g1).mono fun (e : Ending) (w' : World) hh => show ∃ bl, e = .returned (.tuple #[lp bl, .int .i64 0]) ∧ In w0 w' (star (blkR w.heap.size (.cells #[.pointer none, .pointer none, .int .i64 0] 29 (0, 0))) (star (PL bd bl R F G Ds.new 0) Fr)) from by
    obtain ⟨bl, e1, _, h2⟩ := hh
    exact ⟨bl, e1, (PL_new h0 h1 g0 g1 h2).assoc'.comm⟩)
  have CE := Lib.hid (fun bd bl W (V : In w0 W (star (blkR w.heap.size (.cells #[.pointer none, .pointer none, .int .i64 0] 29 (0, 0))) (star (PL bd bl R F G Ds.new 0) Fr))) => show In w0 (((W.setCell ⟨w.heap.size, 0, none⟩ (dp bd)).setCell ⟨w.heap.size, 1, none⟩ (lp bl)).setCell ⟨w.heap.size, 2, none⟩ (.int .i64 0)) (star (blkR w.heap.size (pbox bd bl)) (star (PL bd bl R F G Ds.new 0) Fr)) from
    (((V.put (star_good (PL_good _ _ _ _ _ _ _) g) 0 (dp bd)).put (star_good (PL_good _ _ _ _ _ _ _) g) 1 (lp bl)).put (star_good (PL_good _ _ _ _ _ _ _) g) 2 (.int .i64 0)))
  clear H HR h0 h1 g0 g1 V0 gF
  go_enter Tryz.func10, Tryz.ntmps10
  go_wp2_with (first
    | (go_at_call 45; (with_reducible refine CD.out.mono ?_); rintro e w1 ⟨bd, rfl, V⟩; have V1 := Lib.hid V; clear V)
    | (go_at_call 46; (with_reducible refine (CL.out _ _ V1.out).mono ?_); rintro e w2 ⟨bl, rfl, V⟩; have hb := V.left.get fun S h => h.1; have hc0 := cell_of_blk hb 0; have hc1 := cell_of_blk hb 1; have hc2 := cell_of_blk hb 2; have hf0 := free_of_blk hb 0; have hf1 := free_of_blk hb 1; have hf2 := free_of_blk hb 2; have V2 := Lib.hid V; clear V hb))
  have V3 := CE.out _ _ _ V2.out
  have hb := V3.left.get fun S h => h.1
  have V3 := Lib.hid V3.right
  generalize (((w2.setCell { block := w.heap.size, off := 0 } (dp bd)).setCell { block := w.heap.size, off := 1 } (lp bl)).setCell { block := w.heap.size, off := 2 } (Value.int IntKind.i64 0)) = W3 at hb V3 ⊢
  have q0 := cell_of_blk hb 0
  have q1 := cell_of_blk hb 1
  have q2 := cell_of_blk hb 2
  clear hc0 hc1 hc2 hf0 hf1 hf2 hb V2 V1 CE CL CD
  refine bodyPost_ret (v := .tuple #[pv bd bl, .bool true]) (by simp [results, Tryz.results10, go_sem, q0, q1, q2]) rfl ?_
  exact ⟨bd, bl, rfl, V3.out⟩
theorem clean_walk (g : Good Fr) (H : In w0 w (star (PL bd bl R F G d h) Fr)) (n : Int) :
    Calls Tryz.prog 15 #[pv bd bl, .int .i64 n] w fun e w' => e = .returned (.bool (decide (h = 0) && decide ((d.fs.length : Int) = n))) ∧ In w0 w' (star (PL bd bl R F G d h) Fr) := by
  have V := H.pushB (star_good (PL_good _ _ _ _ _ _ _) g) (pbox bd bl)
  have gB : Good (star (blkR w.heap.size (pbox bd bl)) Fr) := star_good (blkR_good _ _) g
  have CT := Lib.hid ((s_total gB V).mono fun (e : Ending) (w' : World) hh => show e = .returned (.int .i64 h) ∧ In w0 w' (star (PL bd bl R F G d h) (star (blkR w.heap.size (pbox bd bl)) Fr)) from ⟨hh.1, hh.2.2⟩)
  have CF := Lib.hid (fun W (V : In w0 W (star (PL bd bl R F G d h) (star (blkR w.heap.size (pbox bd bl)) Fr))) => s_files gB V)
  obtain ⟨N, hN⟩ : ∃ N, N = d.fs.length := ⟨_, rfl⟩
  rw [← hN] at CF ⊢
  clear H V gB hN
  by_cases hh : h = 0
  · have h1 : (h == 0) = true := by simpa using hh
    have ee : (decide (h = 0) && decide ((N : Int) = n)) = ((N : Int) == n) := by rw [hh]; rfl
    rw [ee]
    clear hh ee
    go_enter Tryz.func15, Tryz.ntmps15
    go_wp2_with (first
      | (go_at_call 52; (with_reducible refine CT.out.mono ?_); rintro e w1 ⟨rfl, V⟩; obtain ⟨k0, k1, k2⟩ := bx_cells V; have V1 := Lib.hid V; clear V CT)
      | (go_at_call 26; (with_reducible refine (CF.out _ V1.out).mono ?_); rintro e w2 ⟨A, c, rfl, V⟩; have V2 := Lib.hid V.drop; clear V CF))
    go_ret
    exact ⟨by trivial, V2.out⟩
  · have h1 : (h == 0) = false := by simpa using hh
    have ee : (decide (h = 0) && decide ((N : Int) = n)) = false := by simp [hh]
    rw [ee]
    clear hh ee
    go_enter Tryz.func15, Tryz.ntmps15
    go_wp2_with (go_at_call 52; (with_reducible refine CT.out.mono ?_); rintro e w1 ⟨rfl, V⟩; have V1 := Lib.hid V.drop; clear V CT)
    go_ret
    exact ⟨by trivial, V1.out⟩
theorem delAll_snoc (d : Ds) (xs : List Int) (k : Nat) (x : Int) (h : xs[k]? = some x) : delAll d (xs.take (k + 1)) = (delAll d (xs.take k)).del x := by
  obtain ⟨hl, e⟩ := List.getElem?_eq_some_iff.1 h
  unfold delAll
  rw [List.take_succ_eq_append_getElem hl, e, List.foldl_append]
  rfl
theorem int_stays {P : World → Prop} {A : Option Addr} {n : Nat} {xs : List Int} {w1 : World} (hw : P w1) (HL : ∀ W, P W → RdI W A n xs) {k : Nat} (hk : k < n) : ∃ ad x, A = some ad ∧ xs[k]? = some x ∧ (Lit.int .i64 x).wf = true ∧ ∀ W, P W → W.cell? (ad.add k) = some (.int .i64 x) := by
  obtain ⟨h1, h2, h3, h4⟩ := HL w1 hw
  obtain ⟨ad, e, hb, hc⟩ := h4 (by omega)
  have hl : k < xs.length := by omega
  refine ⟨ad, xs[k], e, List.getElem?_eq_getElem hl, h3 _ (List.getElem_mem hl), fun W hW => ?_⟩
  obtain ⟨ad', e', _, hc'⟩ := (HL W hW).2.2.2 (by omega)
  rw [e] at e'
  injection e' with e'
  subst e'
  exact hc' k _ (List.getElem?_eq_getElem hl)
theorem s_remove (g : Good Fr) (H : In w0 w (star (PL bd bl R F G d h) Fr)) {A : Option Addr} {n c : Nat} {xs : List Int} (HL : ∀ W, In w0 W Fr → RdI W A n xs) :
    Calls Tryz.prog 20 #[pv bd bl, .slice A n c] w fun e w' => e = .returned (.tuple #[]) ∧ In w0 w' (star (PL bd bl R F G (delAll d xs) h) Fr) := by
  have V := Lib.hid (H.pushB (star_good (PL_good _ _ _ _ _ _ _) g) (pbox bd bl))
  have gB : Good (star (blkR w.heap.size (pbox bd bl)) Fr) := star_good (blkR_good _ _) g
  have HR := Lib.hid (fun W (V : In w0 W Fr) (k : Nat) (hk : k < n) => int_stays (P := fun W => In w0 W Fr) V HL hk)
  have hn64 := (HL _ H.right).2.1
  have hlen := Lib.hid (HL _ H.right).1
  have ED := Lib.hid (fun W (V : In w0 W (star (PL bd bl R F G (delAll d (xs.take n)) h) (star (blkR w.heap.size (pbox bd bl)) Fr))) => show In w0 W (star (PL bd bl R F G (delAll d xs) h) Fr) from by
    rw [List.take_of_length_le (by rw [hlen.out]; exact Nat.le_refl _)] at V
    exact V.drop)
  clear H HL hlen
  go_enter Tryz.func20, Tryz.ntmps20
  go_wp2
  go_loopw [8] (fun i wr => ∃ (k : Nat), k ≤ n ∧ i = .int .i64 (k : Int) ∧ Hid (In w0 wr (star (PL bd bl R F G (delAll d (xs.take k)) h) (star (blkR w.heap.size (pbox bd bl)) Fr)))) (fun i _ => n - (intOf i).toNat)
  case atStart => exact ⟨0, by omega, rfl, V⟩
  case round =>
    clear V
    obtain ⟨k, hk, rfl, HS⟩ := hrel
    by_cases hlt : k < n
    · obtain ⟨ad, x, rfl, hx, hw, hst⟩ := HR.out _ HS.out.right.right k hlt
      have hcell := hst _ HS.out.right.right
      obtain ⟨k0, k1, k2⟩ := bx_cells HS.out
      have CD := s_del gB HS.out hw
      rw [← delAll_snoc d xs k x hx] at CD
      have CD := Lib.hid CD
      obtain ⟨E, hE⟩ : ∃ E, E = (delAll d (xs.take k)).delE x := ⟨_, rfl⟩
      rw [← hE] at CD
      clear HS hst hw hx hE
      go_wp2_with (go_at_call 57; (with_reducible refine CD.out.mono ?_); rintro e w2 ⟨rfl, V⟩; have V2 := Lib.hid V; clear V CD)
      go_roundw
      case measure => simp [intOf]; omega
      case rel => exact ⟨k + 1, by omega, by go_num, V2⟩
    · have hkn : k = n := by omega
      subst hkn
      have V2 := Lib.hid (ED.out _ HS.out)
      clear HS
      go_wp2
      go_end0
      exact ⟨by trivial, V2.out⟩
end
end Go.Proofs.YtkbapoeilcapfaaGreat

/- spill: nil disks, ledgers, writers and readers. -/
namespace Go.Proofs.YtkbapoeilcapfaaGreat
open Go.RowKit Go.Maps
set_option linter.unusedVariables false
set_option linter.unusedSimpArgs false
set_option maxRecDepth 6000

abbrev npv : Value := .agg #[.pointer none, .pointer none, .int .i64 0]
theorem nn_take (w : World) : Calls Tryz.prog 73 #[npv] w fun e w' => e = .returned (.int .i64 6) ∧ Below w.heap.size w w' := by
  go_enter Tryz.func73, Tryz.ntmps73
  go_wp2
  go_ret
  exact ⟨by trivial, (Below.refl _ _).alloc (Nat.le_refl _) _⟩
theorem nn_writer (w : World) : Calls Tryz.prog 37 #[npv] w fun e w' => e = .returned (.tuple #[.pointer none, .int .i64 6]) ∧ Below w.heap.size w w' := by
  have C := Lib.hid nn_take
  go_enter Tryz.func37, Tryz.ntmps37
  go_wp2_with (go_at_call 73; (with_reducible refine (C.out _).mono ?_); rintro e w1 ⟨rfl, b1⟩; have B1 := Lib.hid b1; clear b1)
  go_ret2
  exact ⟨by trivial, ((Below.refl _ _).alloc (Nat.le_refl _) _).trans (B1.out.mono (by simp))⟩
theorem nn_reader (w : World) (n : Int) : Calls Tryz.prog 41 #[npv, .int .i64 n] w fun e w' => e = .returned (.tuple #[.pointer none, .int .i64 6]) ∧ Below w.heap.size w w' := by
  go_enter Tryz.func41, Tryz.ntmps41
  go_wp2
  go_ret2
  exact ⟨by trivial, (Below.refl _ _).alloc (Nat.le_refl _) _⟩
theorem nn_write (w : World) (v : Value) : Calls Tryz.prog 13 #[npv, v] w fun e w' => e = .returned (.tuple #[.int .i64 0, .int .i64 6]) ∧ Below w.heap.size w w' := by
  have C := Lib.hid nn_writer
  go_enter Tryz.func13, Tryz.ntmps13
  go_wp2_with (go_at_call 37; (with_reducible refine (C.out _).mono ?_); rintro e w1 ⟨rfl, b1⟩; have B1 := Lib.hid b1; clear b1)
  go_ret2
  exact ⟨by trivial, ((Below.refl _ _).alloc (Nat.le_refl _) _).trans (B1.out.mono (by simp))⟩
theorem nn_all (w : World) (n : Int) : Calls Tryz.prog 16 #[npv, .int .i64 n] w fun e w' => e = .returned (.tuple #[.slice none 0 0, .int .i64 6]) ∧ Below w.heap.size w w' := by
  have C := Lib.hid nn_reader
  go_enter_defers Tryz.func16, Tryz.ntmps16
  go_wp2_with (go_at_call 41; (with_reducible refine (C.out _ _).mono ?_); rintro e w1 ⟨rfl, b1⟩; have B1 := Lib.hid b1; clear b1)
  refine ⟨_, results_tmp2 rfl _ _ _, ?_⟩
  exact ⟨rfl, ((Below.refl _ _).alloc (Nat.le_refl _) _).trans (B1.out.mono (by simp))⟩
theorem nn_left (w : World) : Calls Tryz.prog 23 #[npv] w fun e w' => e = .returned (.int .i64 0) ∧ Below w.heap.size w w' := by
  have C := Lib.hid leftn_nil
  go_enter Tryz.func23, Tryz.ntmps23
  go_wp2_with (go_at_call 61; (with_reducible refine (C.out _ _).mono ?_); rintro e w1 ⟨rfl, b1⟩; have B1 := Lib.hid b1; clear b1)
  go_ret
  exact ⟨by trivial, ((Below.refl _ _).alloc (Nat.le_refl _) _).trans (B1.out.mono (by simp))⟩
theorem nn_remove (w : World) (ad : Addr) (n : Int) (hc : ∀ W, Below w.heap.size w W → W.cell? ad = some (.int .i64 n)) : Calls Tryz.prog 20 #[npv, .slice (some ad) 1 1] w fun e w' => e = .returned (.tuple #[]) ∧ Below w.heap.size w w' := by
  have C := Lib.hid n_del
  have c0 : (w.alloc (.cells #[.pointer none, .pointer none, .int .i64 0] 29)).cell? ad = some (.int .i64 n) := hc _ ((Below.refl _ _).alloc (Nat.le_refl _) _)
  clear hc
  go_enter Tryz.func20, Tryz.ntmps20
  go_wp2
  refine wp_loop_rounds 2 ?_
  rw [rounds_succ]
  go_wp2_with (go_at_call 57; (with_reducible refine (C.out _ _).mono ?_); rintro e w1 ⟨rfl, b1⟩; have B1 := Lib.hid b1; clear b1)
  rw [rounds_succ]
  go_wp2
  go_end0
  exact ⟨by trivial, ((Below.refl _ _).alloc (Nat.le_refl _) _).trans (B1.out.mono (by simp))⟩
theorem nw_closed (w : World) : Calls Tryz.prog 77 #[.pointer none] w fun e w' => e = .returned (.bool true) ∧ w' = w := by
  go_enter Tryz.func77, Tryz.ntmps77
  go_wp2
  go_ret
  exact ⟨by trivial, rfl⟩
theorem nw_done (w : World) : Calls Tryz.prog 40 #[.pointer none] w fun e w' => e = .returned (.tuple #[.int .i64 0, .int .i64 6]) ∧ w' = w := by
  have C := Lib.hid nw_closed
  go_enter_defers Tryz.func40, Tryz.ntmps40
  go_wp2_with (go_at_call 77; (with_reducible refine (C.out _).mono ?_); rintro e w1 ⟨rfl, rfl⟩)
  refine ⟨_, results_tmp2 rfl _ _ _, ?_⟩
  exact ⟨rfl, rfl⟩
theorem nw_drop (w : World) : Calls Tryz.prog 47 #[.pointer none] w fun e w' => e = .returned (.tuple #[]) ∧ w' = w := by
  have C := Lib.hid nw_closed
  go_enter Tryz.func47, Tryz.ntmps47
  go_wp2_with (go_at_call 77; (with_reducible refine (C.out _).mono ?_); rintro e w1 ⟨rfl, rfl⟩)
  refine bodyPost_ret (results_none rfl _ _ _) rfl ?_
  exact ⟨by trivial, rfl⟩
theorem nw_put (w : World) (v : Value) : Calls Tryz.prog 38 #[.pointer none, v] w fun e w' => e = .returned (.int .i64 6) ∧ w' = w := by
  have C := Lib.hid nw_closed
  go_enter Tryz.func38, Tryz.ntmps38
  go_wp2_with (go_at_call 77; (with_reducible refine (C.out _).mono ?_); rintro e w1 ⟨rfl, rfl⟩)
  go_ret
  exact ⟨by trivial, rfl⟩
theorem nw_len (w : World) : Calls Tryz.prog 39 #[.pointer none] w fun e w' => e = .returned (.int .i64 0) ∧ w' = w := by
  go_enter Tryz.func39, Tryz.ntmps39
  go_wp2
  go_ret
  exact ⟨by trivial, rfl⟩
theorem nr_next (w : World) : Calls Tryz.prog 42 #[.pointer none] w fun e w' => e = .returned (.tuple #[.slice none 0 0, .bool false, .int .i64 0]) ∧ w' = w := by
  go_enter Tryz.func42, Tryz.ntmps42
  go_wp2
  refine bodyPost_ret (results_tmp3 rfl _ _ _) rfl ?_
  exact ⟨by trivial, rfl⟩
theorem nr_close (w : World) : Calls Tryz.prog 43 #[.pointer none] w fun e w' => e = .returned (.tuple #[]) ∧ w' = w := by
  go_enter Tryz.func43, Tryz.ntmps43
  go_wp2
  go_end0
  exact ⟨by trivial, rfl⟩
end Go.Proofs.YtkbapoeilcapfaaGreat

/- spill: what must come of every program, as plain data. -/
namespace Go.Proofs.YtkbapoeilcapfaaGreat
set_option linter.unusedVariables false
set_option linter.unusedSimpArgs false

def lr : List V := [⟨2, 1, ⟨#[]⟩⟩]
def lP : Pg := mkP [lr, lr]
def e1 : Ds := ⟨1, 0, 0, 0, 0, 0, [(1, [])]⟩
def e2 : Ds := ⟨1, 1, 0, 1, 1, 1, [(1, [lP])]⟩
def e3 : Ds := ⟨1, 2, 1, 1, 1, 1, [(1, [lP])]⟩
def e4 : Ds := ⟨1, 3, 2, 1, 1, 1, [(1, [lP])]⟩
def e5 : Ds := ⟨2, 3, 2, 1, 1, 1, [(1, [lP]), (2, [])]⟩
def e6 : Ds := ⟨2, 3, 2, 1, 0, 1, []⟩
def x0 : Ws := ⟨1, 0, 0, false, []⟩
def x1 : Ws := ⟨1, 1, 0, false, [lr]⟩
def x2 : Ws := ⟨1, 2, 0, false, [lr, lr]⟩
def x3 : Ws := ⟨1, 2, 0, true, []⟩
theorem lr_ok : rowOk lr = true := by decide
theorem lr_may : mayE lr = 0 := by decide
theorem lr_u1 : usedN [lr] ≤ 256 := by decide
theorem lr_u2 : usedN [lr, lr] ≤ 256 := by decide
theorem lP_len : lP.length = 256 := mkP_len lr_u2
theorem lrs_ok : ∀ r ∈ [lr, lr], rowOk r = true := by
  intro r hr
  simp at hr
  rw [hr]
  exact lr_ok
theorem lP_rows : pgRows lP = [lr, lr] := pgRows_mkP lrs_ok lr_u2
theorem l_wr : wrE 3 Ds.new 0 = 0 ∧ Ds.new.create = e1 ∧ wrX Ds.new = x0 ∧ Ds.new.createE = 0 := ⟨by decide, by decide, rfl, by decide⟩
theorem l_put1 : x0.putE 9 [] e1 lr = 0 ∧ x0.putD 9 [] e1 lr = e1 ∧ x0.putX 9 [] e1 lr = x1 := by
  have hs : x0.stop lr = 0 := by unfold Ws.stop; rw [if_neg (by decide), if_neg (by decide)]; exact lr_may
  have hu : ¬ 256 < usedN (x0.rows ++ [lr]) := by have := lr_u1; exact Nat.not_lt.2 this
  unfold Ws.putE Ws.putD Ws.putX
  rw [hs]
  simp only [if_neg hu, if_neg (show ¬ (0 : Int) ≠ 0 by decide)]
  exact ⟨by trivial, by trivial, rfl⟩
theorem l_put2 : x1.putE 9 [] e1 lr = 0 ∧ x1.putD 9 [] e1 lr = e1 ∧ x1.putX 9 [] e1 lr = x2 := by
  have hs : x1.stop lr = 0 := by unfold Ws.stop; rw [if_neg (by decide), if_neg (by decide)]; exact lr_may
  have hu : ¬ 256 < usedN (x1.rows ++ [lr]) := by have := lr_u2; exact Nat.not_lt.2 this
  unfold Ws.putE Ws.putD Ws.putX
  rw [hs]
  simp only [if_neg hu, if_neg (show ¬ (0 : Int) ≠ 0 by decide)]
  exact ⟨by trivial, by trivial, rfl⟩
theorem app_yes {R : Int} {F : List Int} {d : Ds} {n : Int} {p : Pg} {l : List Pg} (hp : p.length = 256) (hf : d.find n = some l) (hr : d.used < R) (hF : F.contains (d.deeds + 1) = false) :
    d.appE R F n p = 0 ∧ d.app R F n p = ⟨d.made, d.deeds + 1, d.reads, d.writes + 1, d.used + 1, max d.peak (d.used + 1), addPg d.fs n p⟩ := by
  have h1 : d.appE R F n p = 0 := by
    unfold Ds.appE
    rw [if_neg (by omega), hf]
    dsimp only
    rw [if_neg (by omega), hF]
    rfl
  exact ⟨h1, by unfold Ds.app; rw [if_pos h1]⟩
theorem l_flush : x2.flushE 9 [] e1 = 0 ∧ x2.flushD 9 [] e1 = e2 := by
  have hc : x2.wrong = 0 ∧ x2.rows ≠ [] := ⟨rfl, by unfold x2; simp⟩
  have h := app_yes (R := 9) (F := []) (d := e1) (n := 1) (p := lP) (l := []) lP_len (by decide) (by decide) (by decide)
  unfold Ws.flushE Ws.flushD
  rw [if_pos hc, if_pos hc]
  exact ⟨h.1, h.2⟩
theorem l_done : x2.doneN 9 [] e1 = 1 ∧ x2.doneE 9 [] e1 = 0 ∧ x2.doneD 9 [] e1 = e2 ∧ x2.doneX 9 [] e1 = x3 ∧ x2.endH 1 = 0 := by
  have he : x2.doneE 9 [] e1 = 0 := by unfold Ws.doneE; rw [if_neg (by decide)]; exact l_flush.1
  refine ⟨?_, he, ?_, ?_, by decide⟩
  · unfold Ws.doneN; rw [if_pos he]; rfl
  · unfold Ws.doneD; rw [if_neg (by decide), if_pos l_flush.1]; exact l_flush.2
  · unfold Ws.doneX; rw [if_neg (by decide), l_flush.1]; rfl
theorem l_put3 : x3.putE 9 [] e2 lr = 6 ∧ x3.putD 9 [] e2 lr = e2 ∧ x3.putX 9 [] e2 lr = x3 := by
  have hs : x3.stop lr = 6 := by unfold Ws.stop; rw [if_pos (by decide)]
  unfold Ws.putE Ws.putD Ws.putX
  rw [hs, if_pos (by decide), if_pos (by decide), if_pos (by decide)]
  exact ⟨rfl, rfl, rfl⟩
theorem find_one (a b c e f g : Int) (l : List Pg) : (Ds.mk a b c e f g [(1, l)]).find 1 = some l := rfl
def l_y1 : Rs := ⟨1, 1, [lr], false⟩
def l_y2 : Rs := ⟨1, 1, [], false⟩
theorem l_next (a : Int) (b c : Int) : (rs0 1).next [] ⟨1, a, b, c, 1, 1, [(1, [lP])]⟩ = ⟨some lr, 0, ⟨1, a + 1, b + 1, c, 1, 1, [(1, [lP])]⟩, l_y1⟩ := by
  have hE : Ds.readE [] ⟨1, a, b, c, 1, 1, [(1, [lP])]⟩ 1 0 = 0 := by
    unfold Ds.readE
    rw [find_one]
    rfl
  have hB : (rs0 1).loadB [] ⟨1, a, b, c, 1, 1, [(1, [lP])]⟩ = true := by
    unfold Rs.loadB
    rw [show (rs0 1).file = 1 from rfl, find_one]
    show (decide (((rs0 1).page : Int) < ([lP] : List Pg).length) && decide (Ds.readE [] ⟨1, a, b, c, 1, 1, [(1, [lP])]⟩ 1 0 = 0)) = true
    rw [hE]
    rfl
  have hX : (rs0 1).loadX [] ⟨1, a, b, c, 1, 1, [(1, [lP])]⟩ = ⟨1, 1, [lr, lr], false⟩ := by
    unfold Rs.loadX
    rw [if_pos hB]
    show (⟨1, 1, pgRows lP, false⟩ : Rs) = _
    rw [lP_rows]
  have hD : (rs0 1).loadD [] ⟨1, a, b, c, 1, 1, [(1, [lP])]⟩ = ⟨1, a + 1, b + 1, c, 1, 1, [(1, [lP])]⟩ := by
    unfold Rs.loadD
    rw [show (rs0 1).file = 1 from rfl, find_one]
    show (if (([lP] : List Pg).length : Int) ≤ ((rs0 1).page : Int) then _ else Ds.read [] ⟨1, a, b, c, 1, 1, [(1, [lP])]⟩ 1 0) = _
    rw [if_neg (by decide)]
    unfold Ds.read
    rw [if_pos hE]
  unfold Rs.next
  rw [if_neg (by decide)]
  dsimp only
  rw [if_pos hB, hX, hD]
  unfold l_y1
  simp only [List.head?_cons, List.tail_cons, Nat.zero_add]
theorem l_left : leftN e2 (rs0 1) = 2 := by
  unfold leftN
  have h1 : e2.find (rs0 1).file = some [lP] := find_one 1 1 0 1 1 1 [lP]
  have h2 : rowsN [] = 0 := rfl
  rw [h1]
  simp only [Option.getD_some, List.drop_zero, List.length_nil, rowsN_cons, lP_rows, h2, List.length_cons]
theorem l_all : (allS [] e2 1).e = 0 ∧ (allS [] e2 1).d = e3 ∧ (allS [] e2 1).l = [lr, lr] := by
  have h1 : (rs0 1).next [] e2 = ⟨some lr, 0, e3, l_y1⟩ := l_next 1 0 1
  have h2 : l_y1.next [] e3 = ⟨some lr, 0, e3, l_y2⟩ := rfl
  have h3 : l_y2.next [] e3 = ⟨none, 0, e3, l_y2⟩ := rfl
  unfold allS
  rw [l_left]
  unfold readS
  rw [h1]
  dsimp only
  unfold readS
  rw [h2]
  dsimp only
  unfold readS
  rw [h3]
  exact ⟨rfl, rfl, rfl⟩
theorem l_next1 : (rs0 1).next [] e3 = ⟨some lr, 0, e4, l_y1⟩ := l_next 2 1 1
theorem l_next2 : l_y1.closeX.next [] e4 = ⟨none, 0, e4, l_y1.closeX⟩ := rfl
theorem l_write : (writeS 9 [] 3 e4 0 []).n = 2 ∧ (writeS 9 [] 3 e4 0 []).e = 0 ∧ (writeS 9 [] 3 e4 0 []).d = e5 := by
  have h : writeS 9 [] 3 e4 0 [] = ⟨2, 0, e5⟩ := rfl
  rw [h]
  exact ⟨rfl, rfl, rfl⟩
theorem l_del : delAll e5 [1, 2, 99] = e6 := rfl
end Go.Proofs.YtkbapoeilcapfaaGreat

/- spill: what must come of every program: it does. -/
namespace Go.Proofs.YtkbapoeilcapfaaGreat
open Go.RowKit Go.Maps
set_option linter.unusedVariables false
set_option linter.unusedSimpArgs false
set_option maxRecDepth 6000

theorem refint (w : World) (x : Int) : Calls Tryz.prog 36 #[.int .i64 x] w fun e w' => e = .returned (.agg #[.int .i64 2, .int .i64 x, .string ⟨#[]⟩]) ∧ Below w.heap.size w w' := by
  go_enter Tryz.func36, Tryz.ntmps36
  go_wp2
  exact ⟨rfl, _, results_cell_row (p := 2) (ty := 86) rfl _ _ w.heap.size 86 _ (0, 0) _ rfl (heap_alloc_new w _) Tryz.underlying86 rfl (by kernel_rfl), rfl, (Below.refl _ _).alloc (Nat.le_refl _) _⟩
abbrev rowB (b : Nat) : Value := .slice (some ⟨b, 0, none⟩) 1 1
abbrev rdL (b : Nat) : Res := rd (fun W => RdV W (some ⟨b, 0, none⟩) 1 lr)
/-- A literal row of one value. -/
theorem rdV_lit {W : World} {b : Nat} (h : W.heap[b]? = some (.cells #[.int .i64 2, .int .i64 1, .string ⟨#[]⟩] 86 (0, 0))) : RdV W (some ⟨b, 0, none⟩) 1 lr := by
  refine ⟨rfl, by omega, fun _ => ⟨_, rfl, lt_of_heap h, fun i v hv => ?_⟩, fun v hv => ?_⟩
  · rcases i with _ | i
    · obtain rfl : (⟨2, 1, ⟨#[]⟩⟩ : V) = v := by simpa [lr] using hv
      rw [Nat.zero_mul, add_zero0]
      exact ⟨cell_of_blk h 0, cell_of_blk h 1, cell_of_blk h 2⟩
    · simp [lr] at hv
  · obtain rfl : v = ⟨2, 1, ⟨#[]⟩⟩ := by simpa [lr] using hv
    exact Nat.zero_le _
theorem lit_rd (w : World) : rdL w.heap.size (w.alloc (.cells #[.int .i64 2, .int .i64 1, .string ⟨#[]⟩] 86 (0, 0))) (fun k => k = w.heap.size) := by
  have h := heap_alloc_new w (.cells #[.int .i64 2, .int .i64 1, .string ⟨#[]⟩] 86 (0, 0))
  exact ⟨fun k hk => by rw [hk]; exact lt_of_heap h, fun W ht => rdV_lit (ht.heap h (fun hn => hn rfl))⟩
abbrev FL (bp b bd bl : Nat) : Res := star (blkR bp (pbox bd bl)) (star (rdL b) emp)
theorem FL_good (bp b bd bl : Nat) : Good (FL bp b bd bl) := star_good (blkR_good _ _) (star_good (rd_good _) emp_good)
abbrev PB (bp bd bl : Nat) (W : World) : Prop := W.cell? ⟨bp, 0, none⟩ = some (dp bd) ∧ W.cell? ⟨bp, 1, none⟩ = some (lp bl) ∧ W.cell? ⟨bp, 2, none⟩ = some (.int .i64 0)
section
variable {w0 w W : World} {bd bl bw br bp b : Nat}
abbrev Q9 (bd bl : Nat) (d : Ds) (h : Int) : Res := PL bd bl 9 [] 3 d h
theorem FL_row {W : World} (V : In w0 W (FL bp b bd bl)) : RdV W (some ⟨b, 0, none⟩) 1 lr := V.right.left.get fun S h => rd_get h
theorem FL_cells {W : World} (V : In w0 W (FL bp b bd bl)) : PB bp bd bl W := by
  have h := V.left.get fun S h => h.1
  exact ⟨cell_of_blk h 0, cell_of_blk h 1, cell_of_blk h 2⟩
theorem L_start (V : In w0 w (star (Q9 bd bl Ds.new 0) emp)) : In w0 (w.alloc (pbox bd bl)) (star (Q9 bd bl Ds.new 0) (star (blkR w.heap.size (pbox bd bl)) emp)) := V.pushB (star_good (PL_good _ _ _ _ _ _ _) emp_good) _
theorem L_row (V : In w0 w (star (Q9 bd bl Ds.new 0) (star (blkR bp (pbox bd bl)) emp))) : In w0 (w.alloc (.cells #[.int .i64 2, .int .i64 1, .string ⟨#[]⟩] 86)) (star (Q9 bd bl Ds.new 0) (FL bp w.heap.size bd bl)) := by
  have g : Good (star (Q9 bd bl Ds.new 0) (star (blkR bp (pbox bd bl)) emp)) := star_good (PL_good _ _ _ _ _ _ _) (star_good (blkR_good _ _) emp_good)
  have h1 := V.add g ((Below.refl _ _).alloc (Nat.le_refl _) (.cells #[.int .i64 2, .int .i64 1, .string ⟨#[]⟩] 86 (0, 0))) (lit_rd w) (fun k hk => by rw [hk]; exact Nat.le_refl _)
  exact h1.assoc.imp fun S h => star_mono h (fun _ => id) (fun _ h => star_mono (star_assoc h) (fun _ => id) (fun _ h => star_comm h))
theorem L_writer (V : In w0 W (star (Q9 bd bl Ds.new 0) (FL bp b bd bl))) :
    Calls Tryz.prog 37 #[pv bd bl] W fun e w' => ∃ bw, e = .returned (.tuple #[wp_ bw, .int .i64 0]) ∧ PB bp bd bl w' ∧ In w0 w' (star (Q9 bd bl e1 1) (star (WR bw bd bl x0) (FL bp b bd bl))) := by
  have h := writer_c (FL_good _ _ _ _) V (by decide) (by decide) l_wr.2.2.2
  rw [l_wr.2.1, l_wr.2.2.1] at h
  exact h.mono fun e w' ⟨bw, h1, h2⟩ => ⟨bw, h1, FL_cells h2.right.right, h2⟩
theorem L_put1 (V : In w0 W (star (Q9 bd bl e1 1) (star (WR bw bd bl x0) (FL bp b bd bl)))) :
    Calls Tryz.prog 38 #[wp_ bw, rowB b] W fun e w' => e = .returned (.int .i64 0) ∧ In w0 w' (star (Q9 bd bl e1 1) (star (WR bw bd bl x1) (FL bp b bd bl))) := by
  have h := w_put (r := lr) (cc := 1) (FL_good _ _ _ _) V (fun W hW => FL_row hW) (by decide) (by decide)
  refine h.mono fun e w' hh => ?_
  unfold PutP at hh
  rw [l_put1.1, l_put1.2.1, l_put1.2.2] at hh
  exact hh
theorem L_put2 (V : In w0 W (star (Q9 bd bl e1 1) (star (WR bw bd bl x1) (FL bp b bd bl)))) :
    Calls Tryz.prog 38 #[wp_ bw, rowB b] W fun e w' => e = .returned (.int .i64 0) ∧ PB bp bd bl w' ∧ In w0 w' (star (Q9 bd bl e1 1) (star (WR bw bd bl x2) (FL bp b bd bl))) := by
  have h := w_put (r := lr) (cc := 1) (FL_good _ _ _ _) V (fun W hW => FL_row hW) (by decide) (by decide)
  refine h.mono fun e w' hh => ?_
  unfold PutP at hh
  rw [l_put2.1, l_put2.2.1, l_put2.2.2] at hh
  exact ⟨hh.1, FL_cells hh.2.right.right, hh.2⟩
theorem L_len (V : In w0 W (star (Q9 bd bl e1 1) (star (WR bw bd bl x2) (FL bp b bd bl)))) :
    Calls Tryz.prog 39 #[wp_ bw] W fun e w' => e = .returned (.int .i64 2) ∧ w' = W :=
  w_len (star_good (PL_good _ _ _ _ _ _ _) (FL_good _ _ _ _)) V.swap
theorem L_left (V : In w0 W (star (Q9 bd bl e1 1) (star (WR bw bd bl x2) (FL bp b bd bl)))) :
    Calls Tryz.prog 23 #[pv bd bl] W fun e w' => e = .returned (.int .i64 2) ∧ In w0 w' (star (Q9 bd bl e1 1) (star (WR bw bd bl x2) (FL bp b bd bl))) :=
  (s_left (star_good (WR_good _ _ _ _) (FL_good _ _ _ _)) V).mono fun e w' h => ⟨h.1, h.2.2⟩
theorem L_done (V : In w0 W (star (Q9 bd bl e1 1) (star (WR bw bd bl x2) (FL bp b bd bl)))) :
    Calls Tryz.prog 40 #[wp_ bw] W fun e w' => e = .returned (.tuple #[.int .i64 1, .int .i64 0]) ∧ In w0 w' (star (Q9 bd bl e2 0) (star (WR bw bd bl x3) (FL bp b bd bl))) := by
  have h := w_done (FL_good _ _ _ _) V (by decide)
  refine h.mono fun e w' hh => ?_
  unfold DoneP at hh
  rw [l_done.1, l_done.2.1, l_done.2.2.1, l_done.2.2.2.1, l_done.2.2.2.2] at hh
  exact hh
theorem L_put3 (V : In w0 W (star (Q9 bd bl e2 0) (star (WR bw bd bl x3) (FL bp b bd bl)))) :
    Calls Tryz.prog 38 #[wp_ bw, rowB b] W fun e w' => e = .returned (.int .i64 6) ∧ PB bp bd bl w' ∧ In w0 w' (star (Q9 bd bl e2 0) (star (WR bw bd bl x3) (FL bp b bd bl))) := by
  have h := w_put (r := lr) (cc := 1) (FL_good _ _ _ _) V (fun W hW => FL_row hW) (by decide) (by decide)
  refine h.mono fun e w' hh => ?_
  unfold PutP at hh
  rw [l_put3.1, l_put3.2.1, l_put3.2.2] at hh
  exact ⟨hh.1, FL_cells hh.2.right.right, hh.2⟩
theorem L_all (V : In w0 W (star (Q9 bd bl e2 0) (star (WR bw bd bl x3) (FL bp b bd bl)))) :
    Calls Tryz.prog 16 #[pv bd bl, .int .i64 1] W fun e w' => ∃ B c, e = .returned (.tuple #[.slice B 2 c, .int .i64 0]) ∧ PB bp bd bl w' ∧ In w0 w' (star (Q9 bd bl e3 0) (star (WR bw bd bl x3) (FL bp b bd bl))) := by
  have h := all_yes (n := 1) (star_good (WR_good _ _ _ _) (FL_good _ _ _ _)) V (by decide) (by decide) (N := 10) ⟨by decide, by decide⟩ (by decide)
  refine h.mono fun e w' hh => ?_
  unfold AllP at hh
  rw [l_all.1, l_all.2.1, l_all.2.2, if_neg (by decide)] at hh
  obtain ⟨B, c, hds, h1, h2⟩ := hh
  have h3 := h2.drop
  exact ⟨B, c, h1, FL_cells h3.right.right, h3⟩
theorem L_reader (V : In w0 W (star (Q9 bd bl e3 0) (star (WR bw bd bl x3) (FL bp b bd bl)))) :
    Calls Tryz.prog 41 #[pv bd bl, .int .i64 1] W fun e w' => ∃ br, e = .returned (.tuple #[rp_ br, .int .i64 0]) ∧ In w0 w' (star (Q9 bd bl e3 1) (star (RR br bd bl (rs0 1) (fun _ => True)) (FL bp b bd bl))) :=
  (reader_c (n := 1) (l := [lP]) (star_good (WR_good _ _ _ _) (FL_good _ _ _ _)) V (by decide) (find_one 1 2 1 1 1 1 [lP]) (by decide)).mono fun e w' ⟨br, h1, h2⟩ => ⟨br, h1, h2.assoc'.drop.assoc⟩
theorem L_next1 (V : In w0 W (star (Q9 bd bl e3 1) (star (RR br bd bl (rs0 1) (fun _ => True)) (FL bp b bd bl)))) :
    Calls Tryz.prog 42 #[rp_ br] W fun e w' => ∃ B m c, e = .returned (.tuple #[.slice B m c, .bool true, .int .i64 0]) ∧ In w0 w' (star (Q9 bd bl e4 1) (star (RR br bd bl l_y1 (fun W => RdV W B m lr)) (FL bp b bd bl))) := by
  have h := r_next_some (r := lr) (FL_good _ _ _ _) V (by decide) (by rw [l_next1])
  refine h.mono fun e w' hh => ?_
  unfold SomeP at hh
  rw [l_next1] at hh
  obtain ⟨B, m, c, h1, h2⟩ := hh
  exact ⟨B, m, c, h1, RR_imp h2 (fun w q => q.2)⟩
theorem L_close {Q : World → Prop} (V : In w0 W (star (Q9 bd bl e4 1) (star (RR br bd bl l_y1 Q) (FL bp b bd bl)))) :
    Calls Tryz.prog 43 #[rp_ br] W fun e w' => e = .returned (.tuple #[]) ∧ In w0 w' (star (Q9 bd bl e4 0) (star (RR br bd bl l_y1.closeX Q) (FL bp b bd bl))) := by
  have h := r_close (FL_good _ _ _ _) V
  refine h.mono fun e w' hh => ?_
  unfold CloseP at hh
  rw [show l_y1.closeH 1 = 0 from by decide] at hh
  exact hh
theorem L_next2 {Q : World → Prop} (V : In w0 W (star (Q9 bd bl e4 0) (star (RR br bd bl l_y1.closeX Q) (FL bp b bd bl)))) :
    Calls Tryz.prog 42 #[rp_ br] W fun e w' => e = .returned (.tuple #[.slice none 0 0, .bool false, .int .i64 0]) ∧ PB bp bd bl w' ∧ In w0 w' (star (Q9 bd bl e4 0) (star (RR br bd bl l_y1.closeX Q) (FL bp b bd bl))) := by
  have h := r_next_none (FL_good _ _ _ _) V (by decide) (by rw [l_next2])
  refine h.mono fun e w' hh => ?_
  unfold NoneP at hh
  rw [l_next2] at hh
  exact ⟨hh.1, FL_cells hh.2.right.right, hh.2⟩
theorem L_write {y : Rs} {Q : World → Prop} (V : In w0 W (star (Q9 bd bl e4 0) (star (RR br bd bl y Q) (FL bp b bd bl)))) :
    Calls Tryz.prog 13 #[pv bd bl, .slice none 0 0] W fun e w' => e = .returned (.tuple #[.int .i64 2, .int .i64 0]) ∧ PB bp bd bl w' ∧ In w0 w' (star (Q9 bd bl e5 0) (star (RR br bd bl y Q) (FL bp b bd bl))) := by
  have h := s_write (A := none) (n := 0) (c := 0) (hds := []) (rows := []) (star_good (RR_good _ _ _ _ _) (FL_good _ _ _ _)) V (fun W _ => ⟨⟨rfl, by omega, fun h => absurd h (by omega)⟩, rfl, fun i r hr => by simp at hr⟩) (N := 10) ⟨by decide, by decide⟩ (by decide) (by decide)
  refine h.mono fun e w' hh => ?_
  unfold WriteP at hh
  rw [l_write.1, l_write.2.1, l_write.2.2] at hh
  exact ⟨hh.1, FL_cells hh.2.right.right, hh.2⟩
theorem L_remove {y : Rs} {Q : World → Prop} (V : In w0 W (star (Q9 bd bl e5 0) (star (RR br bd bl y Q) (FL bp b bd bl)))) :
    Calls Tryz.prog 20 #[pv bd bl, .slice (some ⟨W.heap.size, 0, none⟩) 3 3] (W.alloc (.cells #[.int .i64 1, .int .i64 2, .int .i64 99] 3)) fun e w' => e = .returned (.tuple #[]) ∧ PB bp bd bl w' ∧ In w0 w' (star (Q9 bd bl e6 0) (star (RR br bd bl y Q) (FL bp b bd bl))) := by
  have gF : Good (star (RR br bd bl y Q) (FL bp b bd bl)) := star_good (RR_good _ _ _ _ _) (FL_good _ _ _ _)
  have V1 := V.pushB (star_good (PL_good _ _ _ _ _ _ _) gF) (.cells #[.int .i64 1, .int .i64 2, .int .i64 99] 3 (0, 0))
  have h := s_remove (A := some ⟨W.heap.size, 0, none⟩) (n := 3) (c := 3) (xs := [1, 2, 99]) (star_good (blkR_good _ _) gF) V1 (fun W' hW => by
    have hb := hW.left.get fun S h => h.1
    refine ⟨rfl, by omega, by decide, fun _ => ⟨_, rfl, lt_of_heap hb, fun j x hx => ?_⟩⟩
    rcases j with _ | _ | _ | j
    · rw [add_zero0, cell_of_blk hb 0]; simpa using hx
    · exact (cell_of_blk hb 1).trans (by simpa using hx)
    · exact (cell_of_blk hb 2).trans (by simpa using hx)
    · simp at hx)
  refine h.mono fun e w' hh => ?_
  rw [l_del] at hh
  have h3 := hh.2.drop
  exact ⟨hh.1, FL_cells h3.right.right, h3⟩
theorem L_same {B : Option Addr} {m c : Nat} (V : In w0 W (star (Q9 bd bl e6 0) (star (RR br bd bl l_y1.closeX (fun W => RdV W B m lr)) (FL bp b bd bl)))) :
    Calls Tryz.prog 44 #[.slice B m c, rowB b] W fun e w' => e = .returned (.bool true) ∧ PB bp bd bl w' ∧ In w0 w' (star (Q9 bd bl e6 0) (FL bp b bd bl)) := by
  have h1 := (RR_rd V).right.left.get fun S h => rd_get h
  have h2 := FL_row V.right.right
  obtain rfl : m = 1 := h1.len.symm.trans rfl
  refine (same_same (c := c) (c2 := 1) lr h1 h2).mono fun e w' hh => ?_
  have h3 := V.drop.below (star_good (PL_good _ _ _ _ _ _ _) (FL_good _ _ _ _)) hh.2
  exact ⟨hh.1, FL_cells h3.right, h3⟩
theorem L_clean (V : In w0 W (star (Q9 bd bl e6 0) (FL bp b bd bl))) :
    Calls Tryz.prog 15 #[pv bd bl, .int .i64 0] W fun e w' => e = .returned (.bool true) ∧ Below w0.heap.size w0 w' :=
  (clean_walk (FL_good _ _ _ _) V 0).mono fun e w' hh => ⟨hh.1, hh.2.bel⟩
end
theorem make9 (w : World) : Calls Tryz.prog 10 #[.int .i64 9, .slice none 0 0, .int .i64 3] w fun e w' => ∃ bd bl, e = .returned (.tuple #[pv bd bl, .bool true]) ∧ In w w' (star (Q9 bd bl Ds.new 0) emp) :=
  make_yes (R := 9) (G := 3) (F := []) emp_good (In.emp w) (fun W _ => RdI.nil W) (by decide) (by decide) (by decide) (by decide)
set_option maxRecDepth 100000 in
set_option maxHeartbeats 4000000 in
theorem slives (w : World) : Calls Tryz.prog 9 #[] w fun e w' => e = .returned (.bool true) ∧ Below w.heap.size w w' := by
  have C0 := Lib.hid (make9 w)
  have C1 := Lib.hid (fun w1 => refint w1 1)
  go_enter Tryz.func9, Tryz.ntmps9
  go_wp2_with (first
    | (go_at_call 10; (with_reducible refine C0.out.mono ?_); rintro e w1 ⟨bd, bl, rfl, V⟩; have V1 := Lib.hid (L_start V); clear V C0)
    | (go_at_call 36; (with_reducible refine (C1.out _).mono ?_); rintro e w2 ⟨rfl, b⟩; have V3 := Lib.hid (L_row (V1.out.below (star_good (PL_good _ _ _ _ _ _ _) (star_good (blkR_good _ _) emp_good)) b)); obtain ⟨k0, k1, k2⟩ := FL_cells V3.out.right; clear b V1 C1)
    | (go_at_call 37; (with_reducible refine (L_writer V3.out).mono ?_); rintro e w4 ⟨bw, rfl, ⟨k0w4, k1w4, k2w4⟩, V⟩; have V4 := Lib.hid V; clear V V3)
    | (go_at_call 38; (with_reducible refine (L_put1 V4.out).mono ?_); rintro e w5 ⟨rfl, V⟩; have V5 := Lib.hid V; clear V V4)
    | (go_at_call 38; (with_reducible refine (L_put2 V5.out).mono ?_); rintro e w6 ⟨rfl, ⟨k0w6, k1w6, k2w6⟩, V⟩; have V6 := Lib.hid V; clear V V5)
    | (go_at_call 39; (with_reducible refine (L_len V6.out).mono ?_); rintro e w7 ⟨rfl, hw⟩; obtain rfl := hw.symm; clear hw; have V7 := V6; clear V6)
    | (go_at_call 23; (with_reducible refine (L_left V7.out).mono ?_); rintro e w8 ⟨rfl, V⟩; have V8 := Lib.hid V; clear V V7)
    | (go_at_call 40; (with_reducible refine (L_done V8.out).mono ?_); rintro e w9 ⟨rfl, V⟩; have V9 := Lib.hid V; clear V V8)
    | (go_at_call 38; (with_reducible refine (L_put3 V9.out).mono ?_); rintro e w10 ⟨rfl, ⟨k0w10, k1w10, k2w10⟩, V⟩; have V10 := Lib.hid V; clear V V9)
    | (go_at_call 16; (with_reducible refine (L_all V10.out).mono ?_); rintro e w11 ⟨B1, c1, rfl, ⟨k0w11, k1w11, k2w11⟩, V⟩; have V11 := Lib.hid V; clear V V10)
    | (go_at_call 41; (with_reducible refine (L_reader V11.out).mono ?_); rintro e w12 ⟨br, rfl, V⟩; have V12 := Lib.hid V; clear V V11)
    | (go_at_call 42; (with_reducible refine (L_next1 V12.out).mono ?_); rintro e w13 ⟨B2, m2, c2, rfl, V⟩; have V13 := Lib.hid V; clear V V12)
    | (go_at_call 43; (with_reducible refine (L_close V13.out).mono ?_); rintro e w14 ⟨rfl, V⟩; have V14 := Lib.hid V; clear V V13)
    | (go_at_call 42; (with_reducible refine (L_next2 V14.out).mono ?_); rintro e w15 ⟨rfl, ⟨k0w15, k1w15, k2w15⟩, V⟩; have V15 := Lib.hid V; clear V V14)
    | (go_at_call 13; (with_reducible refine (L_write V15.out).mono ?_); rintro e w16 ⟨rfl, ⟨k0w16, k1w16, k2w16⟩, V⟩; have V16 := Lib.hid V; clear V V15)
    | (go_at_call 20; (with_reducible refine (L_remove V16.out).mono ?_); rintro e w17 ⟨rfl, ⟨k0w17, k1w17, k2w17⟩, V⟩; have V17 := Lib.hid V; clear V V16)
    | (go_at_call 37; (with_reducible refine (nn_writer _).mono ?_); rintro e w18 ⟨rfl, b⟩; have V18 := Lib.hid ((V17.out.below (star_good (PL_good _ _ _ _ _ _ _) (star_good (RR_good _ _ _ _ _) (FL_good _ _ _ _))) ((Below.refl _ _).alloc (Nat.le_refl _) (.cells #[.pointer none, .pointer none, .int .i64 0] 29 (0, 0)))).below (star_good (PL_good _ _ _ _ _ _ _) (star_good (RR_good _ _ _ _ _) (FL_good _ _ _ _))) b); clear b V17)
    | (go_at_call 44; (with_reducible refine (L_same V18.out).mono ?_); rintro e w19 ⟨rfl, ⟨k0w19, k1w19, k2w19⟩, V⟩; have V19 := Lib.hid V; clear V V18)
    | (go_at_call 15; (with_reducible refine (L_clean V19.out).mono ?_); rintro e w20 ⟨rfl, b⟩; have B20 := Lib.hid b; clear b V19))
  go_ret
  exact ⟨by trivial, B20.out⟩
end Go.Proofs.YtkbapoeilcapfaaGreat

/- What comes in to the laws of spill; a nil place. -/
namespace Go.Proofs.YtkbapoeilcapfaaGreat
open Go.RowKit Go.ChangeShapes Go.WideShapes Go.Deep
set_option linter.unusedVariables false
set_option linter.unusedSimpArgs false
set_option maxRecDepth 6000

structure NS (w W : World) : Prop where
  bel : Below w.heap.size w W
  box : W.heap[w.heap.size]? = some (.cells #[.pointer none, .pointer none, .int .i64 0] 29 (0, 0))
theorem NS.step {w W W' : World} (h : NS w W) (b : Below W.heap.size W W') : NS w W' := ⟨h.bel.trans (b.mono h.bel.size), blk_below h.box b (lt_of_heap h.box)⟩
theorem NS.cells {w W : World} (h : NS w W) : W.cell? ⟨w.heap.size, 0, none⟩ = some (.pointer none) ∧ W.cell? ⟨w.heap.size, 1, none⟩ = some (.pointer none) ∧ W.cell? ⟨w.heap.size, 2, none⟩ = some (.int .i64 0) :=
  ⟨cell_of_blk h.box 0, cell_of_blk h.box 1, cell_of_blk h.box 2⟩
theorem NS.start (w : World) : NS w (w.alloc (.cells #[.pointer none, .pointer none, .int .i64 0] 29)) := ⟨(Below.refl _ _).alloc (Nat.le_refl _) _, heap_alloc_new _ _⟩
theorem rem_one {w W : World} (n : Int) (h : NS w W) : Calls Tryz.prog 20 #[npv, .slice (some ⟨W.heap.size, 0, none⟩) 1 1] (W.alloc (.cells #[.int .i64 n] 3)) fun e w' => e = .returned (.tuple #[]) ∧ NS w w' := by
  have hb := heap_alloc_new W (.cells #[.int .i64 n] 3 (0, 0))
  refine (nn_remove _ ⟨W.heap.size, 0, none⟩ n (fun W' b => cell_of_blk (blk_below hb b (lt_of_heap hb)) 0)).mono fun e w' hh => ⟨hh.1, ?_⟩
  exact (h.step ((Below.refl _ _).alloc (Nat.le_refl _) _)).step hh.2
end Go.Proofs.YtkbapoeilcapfaaGreat

/- spill as plain data: what a writer has written, what is left to a reader. -/
namespace Go.Proofs.YtkbapoeilcapfaaGreat
set_option linter.unusedVariables false
set_option linter.unusedSimpArgs false

theorem addPg_find (fs : List (Int × List Pg)) (n : Int) (p : Pg) (m : Int) : ((addPg fs n p).find? fun x => x.1 == m).map (·.2) = ((fs.find? fun x => x.1 == m).map (·.2)).map fun l => if m = n then l ++ [p] else l := by
  induction fs with
  | nil => rfl
  | cons x t ih =>
    unfold addPg at ih ⊢
    rw [List.map_cons]
    have e1 : (if x.1 = n then (x.1, x.2 ++ [p]) else x).1 = x.1 := by split <;> rfl
    by_cases h : x.1 = m
    · rw [List.find?_cons_of_pos (by rw [e1]; simpa using h), List.find?_cons_of_pos (by simpa using h)]
      simp only [Option.map_some]
      by_cases h2 : x.1 = n
      · rw [if_pos h2, if_pos (by omega)]
      · rw [if_neg h2, if_neg (by omega)]
    · rw [List.find?_cons_of_neg (by rw [e1]; simpa using h), List.find?_cons_of_neg (by simpa using h)]
      exact ih
theorem filter_find (fs : List (Int × List Pg)) (n m : Int) : ((fs.filter fun x => !(x.1 == n)).find? fun x => x.1 == m).map (·.2) = if m = n then none else (fs.find? fun x => x.1 == m).map (·.2) := by
  induction fs with
  | nil => simp
  | cons x t ih =>
    by_cases h : x.1 = n
    · rw [List.filter_cons_of_neg (by simpa using h), ih]
      split
      · rfl
      · next hm => rw [List.find?_cons_of_neg (by simp; omega)]
    · rw [List.filter_cons_of_pos (by simpa using h)]
      by_cases h2 : x.1 = m
      · rw [List.find?_cons_of_pos (by simpa using h2), List.find?_cons_of_pos (by simpa using h2), if_neg (by omega)]
      · rw [List.find?_cons_of_neg (by simpa using h2), List.find?_cons_of_neg (by simpa using h2), ih]
section
variable {R : Int} {F : List Int} {G : Int} {d : Ds} {h n m : Int} {x y : Ws} {r : List V} {L M : List (List V)} {p : Pg}
theorem app_find (m : Int) : (d.app R F n p).find m = if d.appE R F n p = 0 then (d.find m).map (fun l => if m = n then l ++ [p] else l) else d.find m := by
  unfold Ds.app
  split
  · exact addPg_find _ _ _ _
  · split <;> rfl
theorem app_find_other (hm : m ≠ n) : (d.app R F n p).find m = d.find m := by
  rw [app_find]
  split
  · cases d.find m with
    | none => rfl
    | some l => simp [hm]
  · rfl
theorem del_find (m : Int) : (d.del n).find m = if m = n then none else d.find m := by
  unfold Ds.del
  cases hf : d.find n with
  | none =>
    by_cases hm : m = n
    · rw [if_pos hm, hm]; exact hf
    · rw [if_neg hm]
  | some l => exact filter_find _ _ _
theorem create_find (K : DOk R d) (hE : d.createE = 0) (m : Int) : d.create.find m = if m = d.made + 1 then some [] else d.find m := by
  unfold Ds.create
  rw [if_pos hE]
  unfold Ds.find
  dsimp only
  rw [List.find?_append]
  by_cases hm : m = d.made + 1
  · rw [if_pos hm]
    have : (d.fs.find? fun x => x.1 == m) = none := by
      rw [List.find?_eq_none]
      intro z hz
      have := K.num z hz
      simp
      omega
    rw [this]
    simp [hm]
  · rw [if_neg hm]
    cases hf : d.fs.find? fun x => x.1 == m with
    | some z => rfl
    | none => simp; omega
theorem app_fs_len : (d.app R F n p).fs.length = d.fs.length := by
  unfold Ds.app
  split
  · exact addPg_len _ _ _
  · split <;> rfl
theorem app_used : d.used ≤ (d.app R F n p).used ∧ (d.app R F n p).used ≤ d.used + 1 := by
  unfold Ds.app
  split
  · exact ⟨by dsimp only; omega, by dsimp only; omega⟩
  · split
    · exact ⟨Int.le_refl _, by unfold Ds.deed_; dsimp only; omega⟩
    · exact ⟨Int.le_refl _, by omega⟩
theorem create_fs_len (hE : d.createE = 0) : d.create.fs.length = d.fs.length + 1 := by
  unfold Ds.create
  rw [if_pos hE]
  simp
theorem create_used : d.create.used = d.used := by
  unfold Ds.create
  split <;> rfl
/-- The rows of a file. -/
def Has (d : Ds) (n : Int) (L : List (List V)) : Prop := ∃ ps, d.find n = some ps ∧ ps.flatMap pgRows = L
/-- What a writer has written so far, its page in memory with it. -/
structure Wrote (d : Ds) (x : Ws) (L : List (List V)) : Prop where
  opn : x.ended = false
  wr : x.wrong = 0
  ok : WOk x
  has : ∃ ps, d.find x.file = some ps ∧ ps.flatMap pgRows ++ x.rows = L
theorem Wrote.other (W : Wrote d y M) {d' : Ds} (h : d'.find y.file = d.find y.file) : Wrote d' y M := ⟨W.opn, W.wr, W.ok, by rw [h]; exact W.has⟩
theorem flush_find (hm : m ≠ x.file) : (x.flushD R F d).find m = d.find m := by
  unfold Ws.flushD
  split
  · exact app_find_other hm
  · rfl
theorem put_find (hm : m ≠ x.file) : (x.putD R F d r).find m = d.find m := by
  unfold Ws.putD
  split
  · rfl
  · split
    · exact flush_find hm
    · rfl
theorem flush_fs_len : (x.flushD R F d).fs.length = d.fs.length := by
  unfold Ws.flushD
  split
  · exact app_fs_len
  · rfl
theorem put_fs_len : (x.putD R F d r).fs.length = d.fs.length := by
  unfold Ws.putD
  split
  · rfl
  · split
    · exact flush_fs_len
    · rfl
theorem flush_used : (x.flushD R F d).used ≤ d.used + 1 := by
  unfold Ws.flushD
  split
  · exact app_used.2
  · omega
theorem put_used : (x.putD R F d r).used ≤ d.used + 1 := by
  unfold Ws.putD
  split
  · omega
  · split
    · exact flush_used
    · omega
/-- A flush that goes well keeps all rows. -/
theorem flush_has (W : Wrote d x L) (hE : x.flushE R F d = 0) : Has (x.flushD R F d) x.file L := by
  obtain ⟨ps, h1, h2⟩ := W.has
  unfold Ws.flushE at hE
  unfold Ws.flushD
  by_cases hr : x.wrong = 0 ∧ x.rows ≠ []
  · rw [if_pos hr] at hE ⊢
    refine ⟨ps ++ [mkP x.rows], ?_, ?_⟩
    · rw [app_find, if_pos hE, h1]
      simp
    · rw [List.flatMap_append, ← h2]
      simp [pgRows_mkP W.ok.ok W.ok.fit]
  · rw [if_neg hr]
    have : x.rows = [] := by
      by_cases e : x.rows = []
      · exact e
      · exact absurd ⟨W.wr, e⟩ hr
    refine ⟨ps, h1, ?_⟩
    rw [← h2, this, List.append_nil]
theorem flush_zero (W : Wrote d x L) (hu : d.used < R) : x.flushE R [] d = 0 := by
  obtain ⟨ps, h1, h2⟩ := W.has
  unfold Ws.flushE
  split
  · unfold Ds.appE
    rw [if_neg (by rw [mkP_len W.ok.fit]; decide), h1]
    dsimp only
    rw [if_neg (by omega)]
    rfl
  · exact W.wr
theorem stop_may (W : Wrote d x L) : x.stop r = mayE r := by unfold Ws.stop; rw [W.opn, if_neg (by decide), W.wr, if_neg (by decide)]
theorem put_zero (W : Wrote d x L) (hm : mayE r = 0) (hu : d.used < R) : x.putE R [] d r = 0 := by
  unfold Ws.putE
  rw [stop_may W, if_neg (by rw [hm]; decide)]
  split
  · exact flush_zero W hu
  · rfl
theorem put_wrote (W : Wrote d x L) (hE : x.putE R F d r = 0) (hn : x.n < 1000000) : Wrote (x.putD R F d r) (x.putX R F d r) (L ++ [r]) := by
  have hm : mayE r = 0 := by
    unfold Ws.putE at hE
    rw [stop_may W] at hE
    by_cases h : mayE r ≠ 0
    · rw [if_pos h] at hE; exact hE
    · simpa using h
  have hok := W.ok.putX (R := R) (F := F) (d := d) (r := r) hn
  have hp := put_n (R := R) (F := F) (d := d) (x := x) (r := r)
  refine ⟨by rw [hp.2.2]; exact W.opn, ?_, hok, ?_⟩
  · unfold Ws.putX
    rw [stop_may W, if_neg (by rw [hm]; decide)]
    split
    · next hu =>
      unfold Ws.putE at hE
      rw [stop_may W, if_neg (by rw [hm]; decide), if_pos hu] at hE
      rw [if_neg (by rw [hE]; decide)]
    · exact W.wr
  · rw [hp.2.1]
    unfold Ws.putD Ws.putX
    rw [stop_may W]
    simp only [if_neg (show ¬ mayE r ≠ 0 by rw [hm]; decide)]
    by_cases hu : 256 < usedN (x.rows ++ [r])
    · unfold Ws.putE at hE
      rw [stop_may W, if_neg (by rw [hm]; decide), if_pos hu] at hE
      simp only [if_pos hu, if_neg (show ¬ x.flushE R F d ≠ 0 by rw [hE]; decide)]
      obtain ⟨ps, h1, h2⟩ := flush_has W hE
      exact ⟨ps, h1, by rw [h2]⟩
    · simp only [if_neg hu]
      obtain ⟨ps, h1, h2⟩ := W.has
      exact ⟨ps, h1, by rw [← h2, List.append_assoc]⟩
theorem done_has (W : Wrote d x L) (hE : x.doneE R F d = 0) : x.doneN R F d = x.file ∧ Has (x.doneD R F d) x.file L := by
  have hn : x.doneN R F d = x.file := if_pos hE
  refine ⟨hn, ?_⟩
  have ho : ¬ x.ended = true := by rw [W.opn]; decide
  unfold Ws.doneE at hE
  rw [if_neg ho] at hE
  unfold Ws.doneD
  rw [if_neg ho, if_pos hE]
  exact flush_has W hE
theorem done_zero (W : Wrote d x L) (hu : d.used < R) : x.doneE R [] d = 0 := by
  unfold Ws.doneE
  rw [if_neg (by rw [W.opn]; decide)]
  exact flush_zero W hu
theorem done_find (hm : m ≠ x.file) : (x.doneD R F d).find m = d.find m := by
  unfold Ws.doneD
  split
  · rfl
  · split
    · exact flush_find hm
    · rw [del_find, if_neg hm]
      exact flush_find hm
theorem done_fs_len (hE : x.doneE R F d = 0) : (x.doneD R F d).fs.length = d.fs.length := by
  unfold Ws.doneE at hE
  unfold Ws.doneD
  split
  · rfl
  · next ho =>
    rw [if_neg ho] at hE
    rw [if_pos hE]
    exact flush_fs_len
theorem done_used (hE : x.doneE R F d = 0) : (x.doneD R F d).used ≤ d.used + 1 := by
  unfold Ws.doneE at hE
  unfold Ws.doneD
  split
  · omega
  · next ho =>
    rw [if_neg ho] at hE
    rw [if_pos hE]
    exact flush_used
/-- A new writer. -/
theorem wr_wrote (K : SOk R d) (hE : d.createE = 0) (hm : d.made ≤ 1000000000) : Wrote d.create (wrX d) [] :=
  ⟨rfl, rfl, WOk.new K hm, [], by
    rw [create_find K.dok hE]
    exact if_pos rfl, rfl⟩
end
/-- The rows that are left to a reader. -/
structure Left (d : Ds) (y : Rs) (L : List (List V)) : Prop where
  opn : y.closed = false
  has : ∃ ps, d.find y.file = some ps ∧ y.rows ++ (ps.drop y.page).flatMap pgRows = L
theorem Left.other {d d' : Ds} {y : Rs} {L : List (List V)} (h : Left d y L) (hf : d'.find y.file = d.find y.file) : Left d' y L := ⟨h.opn, by rw [hf]; exact h.has⟩
theorem Left.new {d : Ds} {n : Int} {L : List (List V)} (h : Has d n L) : Left d (rs0 n) L := by
  obtain ⟨ps, h1, h2⟩ := h
  exact ⟨rfl, ps, h1, by simpa using h2⟩
section
variable {R : Int} {d : Ds} {y : Rs} {r : List V} {t : List (List V)}
theorem readE_nil {n : Int} {i : Nat} {l : List Pg} (hf : d.find n = some l) (hi : i < l.length) : d.readE [] n i = 0 := by
  unfold Ds.readE
  rw [hf]
  dsimp only
  rw [if_neg (by omega)]
  rfl
theorem left_some (K : SOk R d) (h : Left d y (r :: t)) : (y.next [] d).row = some r ∧ Left (y.next [] d).d (y.next [] d).x t := by
  obtain ⟨ps, h1, h2⟩ := h.has
  have hc : ¬ y.closed = true := by rw [h.opn]; decide
  cases hr : y.rows with
  | cons a b =>
    have en : y.next [] d = ⟨some a, 0, d, ⟨y.file, y.page, b, y.closed⟩⟩ := by unfold Rs.next; rw [if_neg hc, hr]
    rw [hr] at h2
    injection h2 with e1 e2
    rw [en]
    exact ⟨by rw [e1], h.opn, ps, h1, e2⟩
  | nil =>
    rw [hr, List.nil_append] at h2
    have hl : y.page < ps.length := by
      rcases Nat.lt_or_ge y.page ps.length with hl | hl
      · exact hl
      · rw [List.drop_of_length_le hl] at h2; cases h2
    have hb : y.loadB [] d = true := by
      unfold Rs.loadB
      rw [h1]
      simp [readE_nil h1 hl]
      omega
    have en : y.next [] d = ⟨(y.loadX [] d).rows.head?, 0, y.loadD [] d, ⟨y.file, y.page + 1, (y.loadX [] d).rows.tail, y.closed⟩⟩ := by unfold Rs.next; rw [if_neg hc, hr]; dsimp only; rw [if_pos hb]
    obtain ⟨ps', p, g1, g2, g3, _⟩ := load_at hb
    rw [h1] at g1
    injection g1 with g1
    subst g1
    have ex : (y.loadX [] d).rows = pgRows p := by unfold Rs.loadX; rw [if_pos hb, g3]
    have hm := Ds.find_mem h1
    obtain ⟨rows, q1, q2, q3, q4⟩ := K.pg _ hm p (List.mem_of_getElem? g2)
    have q5 : pgRows p = rows := by rw [q2, pgRows_mkP q4 q3]
    rw [drop_at g2, List.flatMap_cons, q5] at h2
    rw [en, ex, q5]
    cases rows with
    | nil => exact absurd rfl q1
    | cons a b =>
      injection h2 with e1 e2
      refine ⟨by rw [List.head?_cons, e1], h.opn, ps, ?_, e2⟩
      show (y.loadD [] d).find y.file = some ps
      have : (y.loadD [] d).find y.file = d.find y.file := by unfold Ds.find; rw [load_fs]
      rw [this]
      exact h1
theorem left_none (K : SOk R d) (h : Left d y []) : y.next [] d = ⟨none, 0, d, y⟩ := by
  obtain ⟨ps, h1, h2⟩ := h.has
  have hc : ¬ y.closed = true := by rw [h.opn]; decide
  have hr : y.rows = [] := by
    cases hr : y.rows with
    | nil => rfl
    | cons a b => rw [hr] at h2; cases h2
  rw [hr, List.nil_append] at h2
  have hl : ps.length ≤ y.page := by
    rcases Nat.lt_or_ge y.page ps.length with hl | hl
    · have hm := Ds.find_mem h1
      obtain ⟨rows, q1, q2, q3, q4⟩ := K.pg _ hm ps[y.page] (List.getElem_mem hl)
      rw [List.drop_eq_getElem_cons hl, List.flatMap_cons, q2, pgRows_mkP q4 q3] at h2
      cases rows with
      | nil => exact absurd rfl q1
      | cons a b => cases h2
    · exact hl
  have hb : y.loadB [] d = false := by
    unfold Rs.loadB
    rw [h1]
    simp
    omega
  unfold Rs.next
  rw [if_neg hc, hr]
  dsimp only
  rw [if_neg (by rw [hb]; decide)]
  unfold Rs.loadE Rs.loadD
  rw [h1]
  dsimp only
  rw [if_pos (by omega), if_pos (by omega)]
end
end Go.Proofs.YtkbapoeilcapfaaGreat

/- SpillTurns: plain data. -/
namespace Go.Proofs.YtkbapoeilcapfaaGreat
set_option linter.unusedVariables false
set_option linter.unusedSimpArgs false

/-- Two writers at work. -/
structure TSt (k : Nat) (d : Ds) (a b : Ws) (X Y : List (List V)) : Prop where
  sok : SOk 16384 d
  wa : Wrote d a X
  wb : Wrote d b Y
  fa : a.file = 1
  fb : b.file = 2
  le : d.le (k + 2)
  used : d.used ≤ k
  fs : d.fs.length = 2
  na : a.n ≤ k
  nb : b.n ≤ k
  lx : X.length ≤ k
  ly : Y.length ≤ k
theorem TSt.skip {k : Nat} {d : Ds} {a b : Ws} {X Y : List (List V)} (h : TSt k d a b X Y) : TSt (k + 1) d a b X Y :=
  ⟨h.sok, h.wa, h.wb, h.fa, h.fb, h.le.mono (by omega), by have := h.used; omega, h.fs, by have := h.na; omega, by have := h.nb; omega, by have := h.lx; omega, by have := h.ly; omega⟩
theorem TSt.putA {k : Nat} {d : Ds} {a b : Ws} {X Y : List (List V)} {r : List V} (h : TSt k d a b X Y) (hk : k < 200) (hm : mayE r = 0) :
    a.putE 16384 [] d r = 0 ∧ TSt (k + 1) (a.putD 16384 [] d r) (a.putX 16384 [] d r) b (X ++ [r]) Y := by
  have hu := h.used
  have e0 := put_zero (R := 16384) h.wa hm (by omega)
  have hp := put_n (R := 16384) (F := []) (d := d) (x := a) (r := r)
  have hu2 := put_used (R := 16384) (F := []) (d := d) (x := a) (r := r)
  refine ⟨e0, h.sok.put h.wa.ok, put_wrote h.wa e0 (by have := h.na; omega), h.wb.other (put_find (by rw [h.fa, h.fb]; decide)), by rw [hp.2.1]; exact h.fa, h.fb, (le_put h.le).mono (by omega), by omega, by rw [put_fs_len]; exact h.fs, by have := h.na; have := hp.1; omega, by have := h.nb; omega, by have := h.lx; simp; omega, by have := h.ly; omega⟩
theorem TSt.putB {k : Nat} {d : Ds} {a b : Ws} {X Y : List (List V)} {r : List V} (h : TSt k d a b X Y) (hk : k < 200) (hm : mayE r = 0) :
    b.putE 16384 [] d r = 0 ∧ TSt (k + 1) (b.putD 16384 [] d r) a (b.putX 16384 [] d r) X (Y ++ [r]) := by
  have hu := h.used
  have e0 := put_zero (R := 16384) h.wb hm (by omega)
  have hp := put_n (R := 16384) (F := []) (d := d) (x := b) (r := r)
  have hu2 := put_used (R := 16384) (F := []) (d := d) (x := b) (r := r)
  refine ⟨e0, h.sok.put h.wb.ok, h.wa.other (put_find (by rw [h.fa, h.fb]; decide)), put_wrote h.wb e0 (by have := h.nb; omega), h.fa, by rw [hp.2.1]; exact h.fb, (le_put h.le).mono (by omega), by omega, by rw [put_fs_len]; exact h.fs, by have := h.na; omega, by have := h.nb; have := hp.1; omega, by have := h.lx; omega, by have := h.ly; simp; omega⟩
def t_d2 : Ds := ⟨2, 0, 0, 0, 0, 0, [(1, []), (2, [])]⟩
def t_b : Ws := ⟨2, 0, 0, false, []⟩
theorem t_wr1 : wrE 4 Ds.new 0 = 0 ∧ Ds.new.createE = 0 ∧ Ds.new.create = e1 ∧ wrX Ds.new = x0 := ⟨by decide, by decide, by decide, rfl⟩
theorem t_wr2 : e1.createE = 0 ∧ e1.create = t_d2 ∧ wrX e1 = t_b := ⟨by decide, by decide, rfl⟩
theorem TSt.start : TSt 0 t_d2 x0 t_b [] [] := by
  have k0 : SOk 16384 Ds.new := SOk.new (by decide) (by decide)
  have k1 : SOk 16384 e1 := by have := k0.create; rwa [t_wr1.2.2.1] at this
  have k2 : SOk 16384 t_d2 := by have := k1.create; rwa [t_wr2.2.1] at this
  exact ⟨k2, ⟨rfl, rfl, WOk.none (by decide) (by decide), [], rfl, rfl⟩, ⟨rfl, rfl, WOk.none (by decide) (by decide), [], rfl, rfl⟩, rfl, rfl, ⟨by decide, by decide⟩, by decide, rfl, by decide, by decide, by simp, by simp⟩
/-- Both are done. -/
structure TDn (k : Nat) (d d1 d2 : Ds) (a b : Ws) (X Y : List (List V)) : Prop where
  ea : a.doneE 16384 [] d = 0
  na : a.doneN 16384 [] d = 1
  da : a.doneD 16384 [] d = d1
  eb : b.doneE 16384 [] d1 = 0
  nb : b.doneN 16384 [] d1 = 2
  db : b.doneD 16384 [] d1 = d2
  ha : a.endH 2 = 1
  hb : b.endH 1 = 0
  le0 : d.deeds ≤ 1000
  le1 : d1.deeds ≤ 1000
  sok : SOk 16384 d2
  hx : Has d2 1 X
  hy : Has d2 2 Y
  le : d2.le (k + 4)
  fs : d2.fs.length = 2
theorem TSt.done {k : Nat} {d : Ds} {a b : Ws} {X Y : List (List V)} (h : TSt k d a b X Y) (hk : k ≤ 200) : ∃ d1 d2, TDn k d d1 d2 a b X Y := by
  have hu := h.used
  have ea := done_zero (R := 16384) h.wa (by omega)
  have ua := done_used ea
  obtain ⟨na, ha⟩ := done_has h.wa ea
  have wb1 := h.wb.other (d' := a.doneD 16384 [] d) (done_find (by rw [h.fa, h.fb]; decide))
  have k1 := SOk.done (F := []) h.sok h.wa.ok
  have eb := done_zero (R := 16384) wb1 (by omega)
  obtain ⟨nb, hb⟩ := done_has wb1 eb
  have l1 := le_done (R := 16384) (F := []) (x := a) h.le
  have l2 := le_done (R := 16384) (F := []) (x := b) l1
  have oa : ¬ a.ended = true := by rw [h.wa.opn]; decide
  have ob : ¬ b.ended = true := by rw [h.wb.opn]; decide
  refine ⟨_, _, ea, by rw [na, h.fa], rfl, eb, by rw [nb, h.fb], rfl, ?_, ?_, by have := h.le.2; omega, by have := l1.2; omega, SOk.done k1 wb1.ok, ?_, by rw [h.fb] at hb; exact hb, l2.mono (by omega), by rw [done_fs_len eb, done_fs_len ea]; exact h.fs⟩
  · unfold Ws.endH; rw [if_neg oa]; rfl
  · unfold Ws.endH; rw [if_neg ob]; rfl
  · rw [h.fa] at ha
    obtain ⟨ps, g1, g2⟩ := ha
    exact ⟨ps, by rw [done_find (by rw [h.fb]; decide)]; exact g1, g2⟩
/-- Two readers at work. -/
structure RSt (N : Int) (d : Ds) (y z : Rs) (X Y : List (List V)) : Prop where
  sok : SOk 16384 d
  ly : Left d y X
  lz : Left d z Y
  le : d.le N
  fs : d.fs.length = 2
theorem RSt.one {N : Int} {d : Ds} {y z : Rs} {r : List V} {X Y : List (List V)} (h : RSt N d y z (r :: X) Y) : (y.next [] d).row = some r ∧ RSt (N + 1) (y.next [] d).d (y.next [] d).x z X Y := by
  obtain ⟨h1, h2⟩ := left_some h.sok h.ly
  exact ⟨h1, h.sok.next, h2, h.lz.other (next_find _ _ _ _), le_next h.le, by rw [next_fs]; exact h.fs⟩
theorem RSt.none {N : Int} {d : Ds} {y z : Rs} {Y : List (List V)} (h : RSt N d y z [] Y) : y.next [] d = ⟨none, 0, d, y⟩ := left_none h.sok h.ly
theorem RSt.swap {N : Int} {d : Ds} {y z : Rs} {X Y : List (List V)} (h : RSt N d y z X Y) : RSt N d z y Y X := ⟨h.sok, h.lz, h.ly, h.le, h.fs⟩
end Go.Proofs.YtkbapoeilcapfaaGreat

/- SpillTurns: things beside each other; the walk's parts. -/
namespace Go.Proofs.YtkbapoeilcapfaaGreat
open Go.RowKit Go.Maps
set_option linter.unusedVariables false
set_option linter.unusedSimpArgs false
set_option maxRecDepth 6000

section
variable {w : World} {S : Nat → Prop} {A B C D E X : Res}
theorem pull3 (h : star A (star B (star C X)) w S) : star C (star A (star B X)) w S := star_swap (star_mono h (fun _ => id) (fun _ => star_swap))
theorem push3 (h : star C (star A (star B X)) w S) : star A (star B (star C X)) w S := star_mono (star_swap h) (fun _ => id) (fun _ => star_swap)
theorem pull4 (h : star A (star B (star C (star D X))) w S) : star D (star A (star B (star C X))) w S := star_swap (star_mono h (fun _ => id) (fun _ => pull3))
theorem push4 (h : star D (star A (star B (star C X))) w S) : star A (star B (star C (star D X))) w S := star_mono (star_swap h) (fun _ => id) (fun _ => push3)
theorem pull5 (h : star A (star B (star C (star D (star E X)))) w S) : star E (star A (star B (star C (star D X)))) w S := star_swap (star_mono h (fun _ => id) (fun _ => pull4))
theorem push5 (h : star E (star A (star B (star C (star D X)))) w S) : star A (star B (star C (star D (star E X)))) w S := star_mono (star_swap h) (fun _ => id) (fun _ => push4)
theorem swap2 (h : star A (star B (star C X)) w S) : star A (star C (star B X)) w S := star_mono h (fun _ => id) (fun _ => star_swap)
theorem nil_in {e : TypeId} (h : X w S) : star (rowR e 1 (.slice none 0 0) 0 []) X w S := ⟨fun _ => False, S, ⟨⟨rfl, .inl ⟨rfl, rfl⟩⟩, by funext k; simp [Value.ownBlock]⟩, h, fun _ h => h.elim, fun k => by simp⟩
end
section
variable {w0 w W : World} {bd bl ba bb bp r1 r2 : Nat} {d : Ds} {a b : Ws} {y z : Rs} {Q1 Q2 : World → Prop} {vx vy : Value} {nx ny : Nat} {hx hy : List Value} {h : Int}
abbrev P4 (bd bl : Nat) (d : Ds) (h : Int) : Res := PL bd bl 16384 [] 4 d h
abbrev TF (bp bd bl : Nat) : Res := star (blkR bp (pbox bd bl)) emp
theorem TF_good (bp bd bl : Nat) : Good (TF bp bd bl) := star_good (blkR_good _ _) emp_good
abbrev hdR (v : Value) (n : Nat) (hs : List Value) : Res := rowR 25 1 v n hs
/-- The two lists of rows, the place's variable. -/
abbrev LT (bp bd bl : Nat) (vx : Value) (nx : Nat) (hx : List Value) (vy : Value) (ny : Nat) (hy : List Value) : Res := star (hdR vx nx hx) (star (hdR vy ny hy) (TF bp bd bl))
theorem LT_good (bp bd bl : Nat) (vx : Value) (nx : Nat) (hx : List Value) (vy : Value) (ny : Nat) (hy : List Value) : Good (LT bp bd bl vx nx hx vy ny hy) := star_good (rowR_good _ _ _ _ _) (star_good (rowR_good _ _ _ _ _) (TF_good _ _ _))
abbrev W2 (bd bl ba bb : Nat) (d : Ds) (h : Int) (a b : Ws) (X : Res) : Res := star (P4 bd bl d h) (star (WR ba bd bl a) (star (WR bb bd bl b) X))
abbrev R2 (bd bl r1 r2 : Nat) (d : Ds) (h : Int) (y z : Rs) (Q1 Q2 : World → Prop) (X : Res) : Res := star (P4 bd bl d h) (star (RR r1 bd bl y Q1) (star (RR r2 bd bl z Q2) X))
theorem LT_cells (V : In w0 W (LT bp bd bl vx nx hx vy ny hy)) : PB bp bd bl W := by
  have h := V.right.right.left.get fun S h => h.1
  exact ⟨cell_of_blk h 0, cell_of_blk h 1, cell_of_blk h 2⟩
theorem RR_q {br : Nat} {Q : World → Prop} {A X : Res} (V : In w0 W (star A (star (RR br bd bl y Q) X))) : Q W := (RR_rd V).right.left.get fun S h => rd_get h
/-- Row k of the rows that came in. -/
theorem row_in {A : Option Addr} {n : Nat} {hds : List Value} {rows : List (List V)} (HL : RdL w A n hds rows) {k : Nat} (hk : k < n) : ∃ ad B m cc r, A = some ad ∧ rows[k]? = some r ∧ hds[k]? = some (Value.slice B m cc) ∧ r.length = m ∧ ∀ W, Below w.heap.size w W → W.cell? (ad.add k) = some (.slice B m cc) ∧ RdV W B m r := by
  obtain ⟨ad, B, m, cc, r, e1, e2, e3, e4, e5, e6⟩ := HL.at_ hk
  refine ⟨ad, B, m, cc, r, e1, e3, e4, e6.len, fun W hW => ⟨(hW.cell (by rw [add_block]; exact e2)).trans e5, e6.below hW⟩⟩
/-- Row j of a list of rows. -/
theorem list_at {vb : Option Addr} {cp : Nat} {A X : Res} {rows : List (List V)} (hn : nx = rows.length) (V : In w0 W (star A (star (hdR (.slice vb nx cp) nx hx) X))) (HA : RdAcc W hx rows) {j : Nat} (hj : j < nx) : ∃ ad B m cc r, vb = some ad ∧ rows[j]? = some r ∧ rows.drop j = r :: rows.drop (j + 1) ∧ hx[j]? = some (Value.slice B m cc) ∧ W.cell? (ad.add j) = some (.slice B m cc) ∧ RdV W B m r := by
  have ho := V.right.left.get fun S h => h.1
  obtain ⟨ad, e1, e2⟩ := (Rd1.of_own ho).2.at_ hj
  have hl : j < rows.length := by omega
  obtain ⟨B, m, cc, g1, g2⟩ := HA.2 j _ (List.getElem?_eq_getElem hl)
  exact ⟨ad, B, m, cc, _, e1, List.getElem?_eq_getElem hl, List.drop_eq_getElem_cons hl, g1, e2.trans g1, g2⟩
end
end Go.Proofs.YtkbapoeilcapfaaGreat

/- What comes in to the laws of spill: lists of rows, lists of bools. -/
namespace Go.Proofs.YtkbapoeilcapfaaGreat
open Go.RowKit Go.ChangeShapes Go.WideShapes Go.Deep
set_option linter.unusedVariables false
set_option linter.unusedSimpArgs false

section
variable {H : Type} {enc : TypeId × Value → H} {W : World} {base : Nat} {spare : Nat → Bool} {held : Bool}
theorem open_rows_ {fuel : Nat} {cs : List Value} {x : DataW H × List MemPlace} (h : DataW.trod enc Tryz.prog W base spare held fuel 23 cs = some x) : ∃ A len cap, ∃ x : List Value × List (List V), cs = [.slice A len cap] ∧ RdL W A len x.1 x.2 := by
  rcases open_slice Tryz.underlying23 h with ⟨hcs, _⟩ | ⟨a, l, c, m, n, D, Pl, hcs, hb, hl, hm, hmm, hx, hi⟩
  · exact ⟨none, 0, 0, ([], []), hcs, ⟨rfl, by omega, fun h => absurd h (by omega)⟩, rfl, by simp⟩
  · have hC : Tryz.prog.cellsOf 25 = 1 := by kernel_rfl
    have hlm : l ≤ m := by rw [hmm]; split <;> omega
    have hex : ∀ i, ∃ y : (Option Addr × Nat × Nat) × List V, i < l → W.cell? (a.add i) = some (.slice y.1.1 y.1.2.1 y.1.2.2) ∧ RdV W y.1.1 y.1.2.1 y.2 := fun i => by
      by_cases hil : i < l
      · obtain ⟨cs', hc, ht'⟩ := hi i (by omega)
        rw [hC, Nat.mul_one] at hc
        obtain ⟨B, m', c', r, rfl, hr⟩ := rd_row ht'
        obtain ⟨_, _, hat⟩ := World.cells?_some hc
        have h0 := hat 0 (by omega)
        exact ⟨((B, m', c'), r), fun _ => ⟨by simpa [Addr.add] using h0, hr⟩⟩
      · exact ⟨((none, 0, 0), []), fun h => absurd h hil⟩
    obtain ⟨f, hf⟩ := Classical.axiomOfChoice hex
    refine ⟨_, l, c, ((List.range l).map fun i => Value.slice (f i).1.1 (f i).1.2.1 (f i).1.2.2, (List.range l).map fun i => (f i).2), hcs, ⟨by simp, by simp only [maxLen] at hm; omega, fun hn => ⟨a, rfl, ?_, fun j u hu => ?_⟩⟩, by simp, fun i r hr => ?_⟩
    · have := World.block_lt_of_cell? W _ (hf 0 hn).1
      rwa [add_block] at this
    · rw [List.getElem?_map] at hu
      by_cases hil : j < l
      · rw [List.getElem?_range hil] at hu
        rw [(hf j hil).1]
        simpa using hu
      · rw [List.getElem?_eq_none (by simpa using hil)] at hu
        cases hu
    · dsimp only at hr ⊢
      rw [List.getElem?_map] at hr
      by_cases hil : i < l
      · rw [List.getElem?_range hil] at hr
        obtain rfl : (f i).2 = r := by simpa using hr
        exact ⟨_, _, _, by rw [List.getElem?_map, List.getElem?_range hil]; rfl, (hf i hil).2⟩
      · rw [List.getElem?_eq_none (by simpa using hil)] at hr
        cases hr
theorem open_SSValue {A : Option Addr} {len cap : Nat} {d : DataW H} {ps : List MemPlace} (h : DataW.Trod enc Tryz.prog W base spare held 23 (.slice A len cap) d ps) : ∃ x : List Value × List (List V), RdL W A len x.1 x.2 := by
  obtain ⟨fuel, hf⟩ := h
  obtain ⟨B, l, c, x, e, hr⟩ := open_rows_ hf
  obtain ⟨rfl, rfl, rfl⟩ := slice_cells e
  exact ⟨x, hr⟩
end
end Go.Proofs.YtkbapoeilcapfaaGreat
