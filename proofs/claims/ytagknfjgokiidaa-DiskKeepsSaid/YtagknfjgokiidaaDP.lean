/- the disk: Read; a page by value. -/
import Derived.Test.YtagknfjgokiidaaDW
import Derived.Laws.CopyOwn
import Derived.Lib.SliceRun
import Derived.Deep.MidRow
import Derived.Great.BuildSlice
namespace Go.Proofs.Ytagknfjgokiidaa
open Go.RowKit Go.Maps
set_option linter.unusedVariables false
set_option linter.unusedSimpArgs false
set_option maxRecDepth 6000

abbrev b8 (p : List Int) : List Value := p.map (Value.int .u8)
theorem inf8 : (Try.prog.info? 5).map (fun i => (i.zero, i.size, i.bytes)) = some (some (.int .u8 0), 1, 1) := by kernel_rfl
theorem infP : (Try.prog.info? 79).map (fun i => (i.zero, i.size, i.bytes)) = some (some (.agg (Array.replicate 256 (.int .u8 0))), 256, 256) := by kernel_rfl
theorem flat_get : ∀ (l : List Pg) (i j : Nat) (p : Pg), (∀ q ∈ l, q.length = 256) → l[i]? = some p → j < 256 → l.flatten[i * 256 + j]? = p[j]?
  | [], i, j, p, _, h, _ => by simp at h
  | q :: t, 0, j, p, hq, h, hj => by
    obtain rfl : q = p := by simpa using h
    have := hq q (by simp)
    rw [List.flatten_cons, List.getElem?_append_left (by omega)]
    simp
  | q :: t, i + 1, j, p, hq, h, hj => by
    have e := hq q (by simp)
    rw [List.flatten_cons, List.getElem?_append_right (by omega), ← flat_get t i j p (fun r hr => hq r (by simp [hr])) (by simpa using h) hj]
    congr 1
    omega
/-- Bytes that lie at ad. -/
def At8 (w : World) (ad : Addr) (p : List Int) : Prop := ad.block < w.heap.size ∧ ∀ j u, (b8 p)[j]? = some u → w.cell? (ad.add j) = some u
theorem Turn.cellq {S : Nat → Prop} {w w' : World} (h : Turn S w w') {q : Addr} (hl : q.block < w.heap.size) (hn : ¬ S q.block) : w'.cell? q = w.cell? q := by
  unfold World.cell?
  rw [h.block _ hl hn]
theorem At8.turn {S : Nat → Prop} {w w' : World} {ad : Addr} {p : List Int} (h : At8 w ad p) (ht : Turn S w w') (hn : ¬ S ad.block) : At8 w' ad p :=
  ⟨Nat.lt_of_lt_of_le h.1 ht.size, fun j u hu => (ht.cellq (by rw [add_blk]; exact h.1) (by rw [add_blk]; exact hn)).trans (h.2 j u hu)⟩
theorem At8.below {w w' : World} {ad : Addr} {p : List Int} (h : At8 w ad p) (hb : Below w.heap.size w w') : At8 w' ad p := h.turn (Turn.of_below hb (fun _ => False)) id
theorem dclone {w : World} {ad : Addr} {p : List Int} {n c : Nat} (h : At8 w ad p) (hl : p.length = n) (hn : n ≤ 100000) : Calls Try.prog 44 #[.slice (some ad) n c] w fun e w' => ∃ A c', e = .returned (.slice A n c') ∧ w'.ownsRow w.heap.size 5 1 (.slice A n c') n (b8 p) ∧ Below w.heap.size w w' := by
  have b0 : Below w.heap.size w (w.alloc (.cells #[] 5)) := (Below.refl _ _).alloc (Nat.le_refl _) _
  have ho := World.ownsRow_lit (base := w.heap.size) (e := 5) (size := 1) w #[] 0 (Nat.le_refl _) (by simp [maxLen]) (by simp)
  have HR := Lib.hid (And.intro ho (And.intro (h.below b0) (And.intro hl b0)))
  have hcmp := fun (t : TypeId) (h : Try.prog.underlying t = some (.slice 5)) => Go.Lib.run_eql_slice_nil (P := Try.prog) w t 5 (some ad) n c 0 0 h
  have hcmp := hcmp 31 Try.underlying31
  clear h b0 ho hl
  go_enter Try.func44, Try.ntmps44
  go_wp2_with (at_builtin; refine wp_appendL w.heap.size rfl (.tmp 5) (.tmp 6) 31 5 (.int .u8 0) 1 1 rfl Try.underlying31 inf8 rfl (by omega) (by omega) (.slice (some ⟨w.heap.size, 0, none⟩) 0 0) 0 [] rfl (some ad) n c (b8 p) rfl (by simp [HR.out.2.2.1]) (fun h => ⟨ad, rfl, HR.out.2.1.2⟩) (by intro u hu; obtain ⟨x, _, rfl⟩ := List.mem_map.1 hu; rfl) HR.out.1 (by simp) (by omega) ?_; intro v1 w1 h1 t1 _; rw [Nat.zero_add, List.nil_append] at h1; obtain ⟨A1, c1, rfl⟩ := own_slice h1)
  go_ret
  exact ⟨_, _, rfl, h1, below_turn HR.out.2.2.2 t1 (by simp) (fun k hk => by simp [Value.ownBlock] at hk; omega)⟩
theorem row_page {w : World} {A : Option Addr} {n c i : Nat} {l : List Pg} {p : Pg} (h : w.ownsRow 0 79 256 (.slice A n c) n (pgc l)) (hl : l[i]? = some p) (hq : ∀ q ∈ l, PgOk q) :
    ∃ g, A = some ⟨g, 0, none⟩ ∧ At8 w ⟨g, i * 256, none⟩ p := by
  have hp := hq p (List.mem_of_getElem? hl)
  have hget : ∀ j u, (b8 p)[j]? = some u → (pgc l)[i * 256 + j]? = some u := by
    intro j u hu
    have hj : j < 256 := by
      have := (List.getElem?_eq_some_iff.1 hu).1
      rw [List.length_map, hp.1] at this
      exact this
    rw [List.getElem?_map] at hu ⊢
    rw [flat_get l i j p (fun q hq2 => (hq q hq2).1) hl hj]
    exact hu
  rcases h.2 with ⟨e, e2⟩ | ⟨g, cap, cur, e, hb, hg, hnc, hm, _⟩
  · have := hget 0 (.int .u8 (p[0]'(by have := hp.1; omega))) (by rw [List.getElem?_map, List.getElem?_eq_getElem]; rfl)
    have h1 := h.1
    have h2 := (List.getElem?_eq_some_iff.1 this).1
    omega
  · injection e with e1 e3
    refine ⟨g, e1, lt_of_heap hg, fun j u hu => ?_⟩
    subst e1
    have := h.cells (g := g) rfl (i * 256 + j) u (hget j u hu)
    rw [Addr.add_mid] at this ⊢
    rw [Nat.zero_add] at this
    exact this
section
variable {w : World} {bd bm bf : Nat} {V : Int → Value} {R : Int} {F : List Int} {s : Ds}
theorem dread_none (H : Dsk w bd bm bf V R F s) {n i : Int} (hw : (Lit.int .i64 n).wf = true) (hf : s.readE F n i = 4) :
    Calls Try.prog 20 #[dp bd, .int .i64 n, .int .i64 i] w fun e w' => e = .returned (.tuple #[.slice none 0 0, .int .i64 4]) ∧ w' = w := by
  have HR := Lib.hid (dready H)
  have hl : ∃ A c k, (Instr.lookup 65 (.map (some bm)) (.int .i64 n) false).run Try.prog w = .ok (.slice A k c) w ∧ (i < 0 ∨ (k : Int) ≤ i) := by
    unfold Ds.readE at hf
    cases hs : s.find n with
    | none =>
      have := look_v H.map hw
      rw [find_map, hs] at this
      exact ⟨_, _, _, this, by omega⟩
    | some l =>
      obtain ⟨A, c, _, _, h⟩ := dlook_yes H hw hs
      rw [hs] at hf
      dsimp only at hf
      refine ⟨A, c, l.length, h, ?_⟩
      rcases Decidable.em (i < 0 ∨ (l.length : Int) ≤ i) with h | h
      · exact h
      · rw [if_neg h] at hf
        split at hf <;> cases hf
  obtain ⟨A, c, k, hrun, hcase⟩ := hl
  obtain ⟨c0, c1, c2, c3, c4, c5, c6, c7, c8, hb⟩ := H.cells
  clear H hf
  by_cases hi : i < 0
  · clear hcase
    go_enter Try.func20, Try.ntmps20
    go_wp2_with (go_at_call 42; refine HR.out.mono ?_; rintro e w1 ⟨rfl, hw⟩; obtain rfl := hw.symm; clear hw)
    go_ret2
    exact ⟨by trivial, rfl⟩
  · have hk : (k : Int) ≤ i := by omega
    clear hcase
    go_enter Try.func20, Try.ntmps20
    go_wp2_with (go_at_call 42; refine HR.out.mono ?_; rintro e w1 ⟨rfl, hw⟩; obtain rfl := hw.symm; clear hw)
    go_ret2
    exact ⟨by trivial, rfl⟩
theorem deed_at (H : Dsk w bd bm bf V R F s) (h0 : 0 ≤ s.deeds) (h1 : s.deeds ≤ 1000000000) {b : Bool} (hb : F.contains (s.deeds + 1) = b) :
    Calls Try.prog 43 #[dp bd] w fun e w' => e = .returned (.int .i64 (if b then 50 else 0)) ∧ DeedP w bd bm bf V R F s w' := by
  have := deed_walk H h0 h1
  rw [hb] at this
  exact this
theorem DeedP.ch {w' : World} (h : DeedP w bd bm bf V R F s w') : Ch w (DS bd bm bf V s) (DR bd R F s.deed_) w' :=
  Dsk.ch h.1 (h.2.mono fun k hk => .inl hk) (fun k hk => .inl hk)
theorem dread_fault (H : Dsk w bd bm bf V R F s) (K : DOk R s) (hd : s.deeds ≤ 1000000000) {n i : Int} (hw : (Lit.int .i64 n).wf = true) (hf : s.readE F n i = 50) :
    Calls Try.prog 20 #[dp bd, .int .i64 n, .int .i64 i] w fun e w' => e = .returned (.tuple #[.slice none 0 0, .int .i64 50]) ∧ Ch w (DS bd bm bf V s) (DR bd R F s.deed_) w' := by
  have HR := Lib.hid (dready H)
  have hl : ∃ A c k, (Instr.lookup 65 (.map (some bm)) (.int .i64 n) false).run Try.prog w = .ok (.slice A k c) w ∧ 0 ≤ i ∧ i < (k : Int) ∧ F.contains (s.deeds + 1) = true := by
    unfold Ds.readE at hf
    cases hs : s.find n with
    | none => rw [hs] at hf; cases hf
    | some l =>
      obtain ⟨A, c, _, _, h⟩ := dlook_yes H hw hs
      rw [hs] at hf
      dsimp only at hf
      by_cases h2 : i < 0 ∨ (l.length : Int) ≤ i
      · rw [if_pos h2] at hf; cases hf
      · rw [if_neg h2] at hf
        refine ⟨A, c, l.length, h, by omega, by omega, ?_⟩
        cases hc : F.contains (s.deeds + 1) with
        | true => rfl
        | false => rw [hc] at hf; cases hf
  obtain ⟨A, c, k, hrun, hi0, hik, hc⟩ := hl
  have ha := K.acts
  have HD := Lib.hid ((deed_at H (by omega) hd hc).mono fun e w' h => (⟨h.1, h.2.ch⟩ : e = .returned (.int .i64 50) ∧ Ch w (DS bd bm bf V s) (DR bd R F s.deed_) w'))
  obtain ⟨c0, c1, c2, c3, c4, c5, c6, c7, c8, hb⟩ := H.cells
  clear H hf hc ha K
  go_enter Try.func20, Try.ntmps20
  go_wp2_with (first
    | (go_at_call 42; refine HR.out.mono ?_; rintro e w1 ⟨rfl, hw⟩; obtain rfl := hw.symm; clear hw)
    | (go_at_call 43; refine HD.out.mono ?_; rintro e w1 ⟨rfl, hp⟩; have HP := Lib.hid hp; clear hp))
  go_ret2
  exact ⟨by trivial, HP.out⟩
theorem dread_ok (H : Dsk w bd bm bf V R F s) (K : DOk R s) (hd : s.deeds ≤ 1000000000) {n i : Int} (hw : (Lit.int .i64 n).wf = true) (hf : s.readE F n i = 0) :
    Calls Try.prog 20 #[dp bd, .int .i64 n, .int .i64 i] w fun e w' => ∃ v : Option Addr × Nat, e = .returned (.tuple #[.slice v.1 256 v.2, .int .i64 0]) ∧ Ch w (DS bd bm bf V s) (star (DR bd R F (s.read F n i)) (rowR 5 1 (.slice v.1 256 v.2) 256 (b8 (s.readP n i)))) w' := by
  have HR := Lib.hid (dready H)
  have hl : ∃ A c k p, (Instr.lookup 65 (.map (some bm)) (.int .i64 n) false).run Try.prog w = .ok (.slice (some ⟨A, 0, none⟩) k c) w ∧ 0 ≤ i ∧ i < (k : Int) ∧ F.contains (s.deeds + 1) = false ∧ s.readP n i = p ∧ p.length = 256 ∧ At8 w ⟨A, i.toNat * 256, none⟩ p ∧ A ≠ bd := by
    unfold Ds.readE at hf
    cases hs : s.find n with
    | none => rw [hs] at hf; cases hf
    | some l =>
      obtain ⟨A, c, hV, _, h⟩ := dlook_yes H hw hs
      rw [hs] at hf
      dsimp only at hf
      by_cases h2 : i < 0 ∨ (l.length : Int) ≤ i
      · rw [if_pos h2] at hf; cases hf
      · rw [if_neg h2] at hf
        have hmem := Ds.find_mem hs
        have hrow := H.row _ hmem
        dsimp only at hrow
        rw [hV] at hrow
        have hget : l[i.toNat]? = some (l[i.toNat]'(by omega)) := List.getElem?_eq_getElem _
        obtain ⟨g, rfl, hat⟩ := row_page hrow hget (fun q hq => K.pgs _ hmem q hq)
        refine ⟨g, c, l.length, _, h, by omega, by omega, ?_, ?_, (K.pgs _ hmem _ (List.mem_of_getElem? hget)).1, hat, ?_⟩
        · cases hc : F.contains (s.deeds + 1) with
          | false => rfl
          | true => rw [hc] at hf; cases hf
        · unfold Ds.readP
          rw [hs, Option.getD_some, List.getD_eq_getElem?_getD, hget]
          rfl
        · intro e
          exact (H.nes.2.2 _ hmem g (by dsimp only; rw [hV]; rfl)).1 e
  obtain ⟨g, c, k, p, hrun, hi0, hik, hc, hp, hpl, hat, hne⟩ := hl
  have ha := K.acts
  have hrd : s.read F n i = ⟨s.made, s.deeds + 1, s.reads + 1, s.writes, s.used, s.peak, s.fs⟩ := by
    unfold Ds.read
    rw [if_pos hf]
  have HD := Lib.hid ((deed_at H (by omega) hd hc).mono fun e w' h => (⟨h.1, h.2⟩ : e = .returned (.int .i64 0) ∧ DeedP w bd bm bf V R F s w'))
  obtain ⟨c0, c1, c2, c3, c4, c5, c6, c7, c8, hb⟩ := H.cells
  rw [hrd, hp]
  have HA := Lib.hid hat
  have HL := Lib.hid hpl
  obtain ⟨a, rfl⟩ : ∃ a : Nat, i = (a : Int) := ⟨i.toNat, by omega⟩
  rw [Int.toNat_natCast] at HA
  have HH := Lib.hid H
  have hr1 : s.reads ≤ 1000000000 := by omega
  have hr0 := ha.1
  clear H hf hc ha K hrd hp hat hpl
  go_enter Try.func20, Try.ntmps20
  go_wp2_with (first
    | (go_at_call 42; refine HR.out.mono ?_; rintro e w1 ⟨rfl, hw⟩; obtain rfl := hw.symm; clear hw)
    | (go_at_call 43; refine HD.out.mono ?_; rintro e w1 ⟨rfl, hp⟩; have HP := Lib.hid hp; clear hp; have k5 := HP.out.1.cells.2.2.2.2.2.1; have f5 := HP.out.1.frees.2.2.1; dsimp only [Ds.deed_] at k5)
    | (go_at_call 44; refine (dclone (w := w1.setCell ⟨bd, 5, none⟩ (.int .i64 (s.reads + 1))) (p := p) (ad := ⟨g, a * 256, none⟩) ((HA.out.turn HP.out.2 hne).turn ((Turn.refl (fun k => k = bd) w1).cell bd 5 _ rfl) hne) HL.out (by omega)).mono ?_; rintro e w3 ⟨B, cB, rfl, ho, b3⟩; have HO := Lib.hid ho; clear ho))
  go_ret2
  have HT := HP.out.2.then_ ((Turn.refl (fun k => k = bd) w1).cell bd 5 (.int .i64 (s.reads + 1)) rfl) (fun k hk => .inl hk)
  have H3 : Dsk w3 bd bm bf V R F ⟨s.made, s.deeds + 1, s.reads + 1, s.writes, s.used, s.peak, s.fs⟩ :=
    ((HP.out.1.upd ((Turn.refl (fun k => k = bd) w1).cell bd 5 _ rfl) (blk_set HP.out.1.dsk 5 (.int .i64 (s.reads + 1))) rfl : Dsk (w1.setCell ⟨bd, 5, none⟩ (.int .i64 (s.reads + 1))) bd bm bf V R F ⟨s.made, s.deeds + 1, s.reads + 1, s.writes, s.used, s.peak, s.fs⟩)).turn (Turn.of_below b3 (fun _ => False)) (fun _ _ => id)
  have hz := HT.size
  refine ⟨(B, cB), by trivial, fun k => DS bd bm bf V s k ∨ (Value.slice B 256 cB).ownBlock = some k, ⟨_, _, ⟨bm, bf, V, H3, rfl⟩, ⟨own_lower HO.out (by omega), rfl⟩, ?_, fun k => Iff.rfl⟩, (HT.then_ (Turn.of_below b3 (fun _ => False)) (fun _ h => h.elim)).mono (fun k hk => .inl hk), ?_⟩
  · intro k hk hk2
    have h1 := HH.out.lt k hk
    have h2 := own_ge HO.out hk2
    omega
  · rintro k (hk | hk)
    · exact .inl hk
    · have h2 := own_ge HO.out hk
      exact .inr (by omega)
end
end Go.Proofs.Ytagknfjgokiidaa
