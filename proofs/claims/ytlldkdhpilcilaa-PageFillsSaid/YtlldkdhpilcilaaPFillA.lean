/- page.Fill. -/
import Derived.Test.YtlldkdhpilcilaaPgs
namespace Go.Proofs.Ytlldkdhpilcilaa
open Go.RowKit
set_option linter.unusedVariables false
set_option linter.unusedSimpArgs false

abbrev Rows := List (List V)
def stepF (s : List Rows × Rows) (r : List V) : List Rows × Rows := if 256 < usedN (s.2 ++ [r]) then (s.1 ++ [s.2], [r]) else (s.1, s.2 ++ [r])
def fillF (rows : Rows) : List Rows × Rows := rows.foldl stepF ([], [])
def fillG (rows : Rows) : List Rows := if rows = [] then [] else (fillF rows).1 ++ [(fillF rows).2]
def firstM : Rows → Int
  | [] => 0
  | r :: t => if mayE r = 0 then firstM t else mayE r
theorem fillF_snoc {rows : Rows} {k : Nat} {r : List V} (h : rows[k]? = some r) : fillF (rows.take (k + 1)) = stepF (fillF (rows.take k)) r := by
  obtain ⟨hl, e⟩ := List.getElem?_eq_some_iff.1 h
  unfold fillF
  rw [List.take_succ_eq_append_getElem hl, e, List.foldl_append]
  rfl
theorem firstM_drop {rows : Rows} {k : Nat} {r : List V} (h : rows[k]? = some r) : firstM (rows.drop k) = if mayE r = 0 then firstM (rows.drop (k + 1)) else mayE r := by
  obtain ⟨hl, e⟩ := List.getElem?_eq_some_iff.1 h
  rw [List.drop_eq_getElem_cons hl, e]
  rfl
theorem mayE_zero {r : List V} (h : mayE r = 0) : rowOk r = true ∧ (encR r).length ≤ 253 := by
  unfold mayE at h
  split at h
  · cases h
  · next h1 =>
    split at h
    · cases h
    · next h2 => exact ⟨by simpa using h1, by omega⟩
theorem usedN_one {r : List V} : usedN [r] = (encR r).length + 3 := by
  unfold usedN
  simp [flat]
  omega
/-- A page that is held: its block is of bytes. -/
structure PgAt (w : World) (h : Value) (g : Rows) : Prop where
  ex : ∃ ad c pb cs, h = .slice (some ad) 256 c ∧ RdB w (some ad) 256 c pb ∧ PG pb g ∧ w.heap[ad.block]? = some (.cells cs 5 (0, 0))
  ok : ∀ r ∈ g, rowOk r = true
theorem PgAt.below {w w' : World} {h : Value} {g : Rows} (H : PgAt w h g) (hb : Below w.heap.size w w') : PgAt w' h g := by
  obtain ⟨ad, c, pb, cs, e, h1, h2, h3⟩ := H.ex
  exact ⟨⟨ad, c, pb, cs, e, h1.below hb, h2, blk_below h3 hb (lt_of_heap h3)⟩, H.ok⟩
theorem PgAt.turn {w w' : World} {base size n : Nat} {h v : Value} {e : TypeId} {xs : List Value} {g : Rows} (H : PgAt w h g) (ho : w.ownsRow base e size v n xs) (hne : e ≠ 5) (ht : Turn (fun k => v.ownBlock = some k) w w') : PgAt w' h g := by
  obtain ⟨ad, c, pb, cs, e, h1, h2, h3⟩ := H.ex
  have hs : ¬ v.ownBlock = some ad.block := fun hk => own_ne_typed ho h3 hne _ hk rfl
  exact ⟨⟨ad, c, pb, cs, e, h1.turn ht (fun ad' e => by obtain rfl := Option.some.inj e; exact hs), h2, ht.heap h3 hs⟩, H.ok⟩
theorem add_head (g j : Nat) : (⟨g, 0, none⟩ : Addr).add j = ⟨g, j, none⟩ := by unfold Addr.add; split <;> simp_all
theorem PgAt.new {w w' : World} (h : w'.heap[w.heap.size]? = some (.cells (u8s (List.replicate 256 0)).toArray 5 (0, 0))) : PgAt w' (.slice (some ⟨w.heap.size, 0, none⟩) 256 256) [] :=
  ⟨⟨_, _, _, _, rfl, ⟨⟨by rw [List.length_map, List.length_replicate], by omega, fun _ => ⟨_, rfl, lt_of_heap h, fun j u hu => by
    rw [add_head, cell_of_blk h j, List.getElem?_toArray]
    exact hu⟩⟩, isB_zeros 256, by omega, by omega⟩, PG.nil, h⟩, by simp⟩
theorem isB_encR' (r : List V) (h : rowOk r = true) : isB (encR r) := isB_encR r h
theorem isB_set {p : List Int} (h : isB p) (i : Nat) {x : Int} (h0 : 0 ≤ x) (h1 : x ≤ 255) : isB (p.set i x) := by
  intro y hy
  rcases List.mem_or_eq_of_mem_set hy with e | e
  · exact h y e
  · rw [e]
    exact ⟨h0, h1⟩
theorem isB_addP {p e : List Int} (a : Nat) (hp : isB p) (he : isB e) (h0 : p.getD 0 0 ≤ 254) (ha : a ≤ 65535) : isB (addP p a e) := by
  have hk := (getD_isB hp 0).1
  unfold addP
  refine isB_set (isB_set (isB.append (isB.append ?_ he) (hp.drop _)) _ (by omega) (by omega)) _ (by omega) (by omega)
  exact (isB_set hp 0 (by omega) (by omega)).take a
theorem PgAt.add {w' : World} {base : Nat} {ad : Addr} {c : Nat} {pb : List Int} {g : Rows} {r : List V} (hb : isB pb) (hp : PG pb g) (hok : ∀ s ∈ g, rowOk s = true) (hr : rowOk r = true) (hu : usedN (g ++ [r]) ≤ 256)
    (ho : w'.ownsRow base 5 1 (.slice (some ad) 256 c) 256 (u8s (addP pb (1 + (flat g).length) (encR r)))) : PgAt w' (.slice (some ad) 256 c) (g ++ [r]) := by
  obtain ⟨g0, L, cap, e, _, hg, hcap, hcm, _, _⟩ := own_block ho (by omega)
  injection e with e1 _ e3
  injection e1 with e1
  subst e1 e3
  have hu2 := hu
  unfold usedN at hu2
  rw [flat_append, List.length_append, List.length_append] at hu2
  simp only [List.length_cons, List.length_nil] at hu2
  refine ⟨⟨_, _, _, _, rfl, ⟨(Rd1.of_own ho).2, isB_addP _ hb (isB_encR r hr) (by rw [hp.p0]; omega) (by omega), hcap, by simp only [maxLen] at hcm; omega⟩, hp.add r hu, hg⟩, ?_⟩
  intro s hs
  rcases List.mem_append.1 hs with h | h
  · exact hok s h
  · obtain rfl : s = r := by simpa using h
    exact hr
/-- Adding to a page that is held. -/
theorem add_held {w : World} {C : Option Addr} {m cc : Nat} {h : Value} {g : Rows} {r : List V} (H : PgAt w h g) (hr : RdV w C m r) :
    Calls Try.prog 32 #[h, .slice C m cc] w fun e w' =>
      (if mayE r = 0 then (if 256 < usedN (g ++ [r]) then e = .returned (.tuple #[.slice none 0 0, .int .i64 2]) else ∃ ad' c', e = .returned (.tuple #[.slice (some ad') 256 c', .int .i64 0]) ∧ PgAt w' (.slice (some ad') 256 c') (g ++ [r]) ∧ w.heap.size ≤ ad'.block)
       else e = .returned (.tuple #[.slice none 0 0, .int .i64 (mayE r)])) ∧ Below w.heap.size w w' := by
  obtain ⟨ad, c, pb, cs, rfl, h1, h2, h3⟩ := H.ex
  refine (add_walk (cc := cc) h1 h2 H.ok hr).mono ?_
  rintro e w' ⟨h4, b⟩
  refine ⟨?_, b⟩
  by_cases hk : rowOk r = false
  · have : mayE r = 20 := by unfold mayE; rw [if_pos hk]
    rw [if_pos hk] at h4
    rw [this, if_neg (by decide)]
    exact h4
  · rw [if_neg hk] at h4
    by_cases hl : 253 < (encR r).length
    · have : mayE r = 3 := by unfold mayE; rw [if_neg hk, if_pos hl]
      rw [if_pos hl] at h4
      rw [this, if_neg (by decide)]
      exact h4
    · have : mayE r = 0 := by unfold mayE; rw [if_neg hk, if_neg hl]
      rw [if_neg hl] at h4
      rw [this, if_pos rfl]
      by_cases hu : 256 < usedN (g ++ [r])
      · rw [if_pos hu] at h4 ⊢
        exact h4
      · rw [if_neg hu] at h4 ⊢
        obtain ⟨ad', c', rfl, ho⟩ := h4
        exact ⟨ad', c', rfl, PgAt.add h1.isb h2 H.ok (by simpa using hk) (by omega) ho, own_ge ho (by simp [Value.ownBlock])⟩
end Go.Proofs.Ytlldkdhpilcilaa
namespace Go.Proofs.Ytlldkdhpilcilaa
open Go.RowKit
set_option linter.unusedVariables false
set_option linter.unusedSimpArgs false

theorem info_P : (Try.prog.info? 23).map (fun i => (i.zero, i.size, i.bytes)) = some (some (.slice none 0 0), 1, 24) := by kernel_rfl
section
variable {w : World} {C : Option Addr} {m cc : Nat} {h : Value} {g : Rows} {r : List V}
theorem held_no (H : PgAt w h g) (hr : RdV w C m r) (hm : mayE r ≠ 0) : Calls Try.prog 32 #[h, .slice C m cc] w fun e w' => e = .returned (.tuple #[.slice none 0 0, .int .i64 (mayE r)]) ∧ Below w.heap.size w w' := by
  refine (add_held (cc := cc) H hr).mono ?_
  rintro e w' ⟨h1, b⟩
  rw [if_neg hm] at h1
  exact ⟨h1, b⟩
theorem held_full (H : PgAt w h g) (hr : RdV w C m r) (hm : mayE r = 0) (hu : 256 < usedN (g ++ [r])) : Calls Try.prog 32 #[h, .slice C m cc] w fun e w' => e = .returned (.tuple #[.slice none 0 0, .int .i64 2]) ∧ Below w.heap.size w w' := by
  refine (add_held (cc := cc) H hr).mono ?_
  rintro e w' ⟨h1, b⟩
  rw [if_pos hm, if_pos hu] at h1
  exact ⟨h1, b⟩
theorem held_yes (H : PgAt w h g) (hr : RdV w C m r) (hm : mayE r = 0) (hu : ¬ 256 < usedN (g ++ [r])) : Calls Try.prog 32 #[h, .slice C m cc] w fun e w' => ∃ ad' c', e = .returned (.tuple #[.slice (some ad') 256 c', .int .i64 0]) ∧ PgAt w' (.slice (some ad') 256 c') (g ++ [r]) ∧ Below w.heap.size w w' := by
  refine (add_held (cc := cc) H hr).mono ?_
  rintro e w' ⟨h1, b⟩
  rw [if_pos hm, if_neg hu] at h1
  obtain ⟨ad', c', h1, h2, _⟩ := h1
  exact ⟨ad', c', h1, h2, b⟩
end
structure PgsAt (w : World) (hds : List Value) (gs : List Rows) : Prop where
  len : hds.length = gs.length
  pg : ∀ (i : Nat) h g, hds[i]? = some h → gs[i]? = some g → PgAt w h g
theorem PgsAt.below {w w' : World} {hds : List Value} {gs : List Rows} (H : PgsAt w hds gs) (hb : Below w.heap.size w w') : PgsAt w' hds gs := ⟨H.len, fun i h g h1 h2 => (H.pg i h g h1 h2).below hb⟩
theorem PgsAt.turn {w w' : World} {base size n : Nat} {hds : List Value} {v : Value} {e : TypeId} {xs : List Value} {gs : List Rows} (H : PgsAt w hds gs) (ho : w.ownsRow base e size v n xs) (hne : e ≠ 5) (ht : Turn (fun k => v.ownBlock = some k) w w') : PgsAt w' hds gs :=
  ⟨H.len, fun i h g h1 h2 => (H.pg i h g h1 h2).turn ho hne ht⟩
theorem PgsAt.snoc {w : World} {hds : List Value} {gs : List Rows} {h : Value} {g : Rows} (H : PgsAt w hds gs) (hg : PgAt w h g) : PgsAt w (hds ++ [h]) (gs ++ [g]) := by
  refine ⟨by simp [H.len], fun i y s hy hs => ?_⟩
  rcases Nat.lt_or_ge i hds.length with hl | hl
  · rw [List.getElem?_append_left hl] at hy
    rw [List.getElem?_append_left (by rw [← H.len]; exact hl)] at hs
    exact H.pg i y s hy hs
  · rw [List.getElem?_append_right hl] at hy
    rw [List.getElem?_append_right (by rw [← H.len]; exact hl), ← H.len] at hs
    rcases hz : i - hds.length with _ | j
    · rw [hz] at hy hs
      simp at hy hs
      subst hy hs
      exact hg
    · rw [hz] at hy
      simp at hy
theorem PgsAt.nil (w : World) : PgsAt w [] [] := ⟨rfl, fun i h g hh => by simp at hh⟩
def FillPost (w : World) (rows : Rows) (e : Ending) (w' : World) : Prop :=
  (if firstM rows = 0 then ∃ A c hds, e = .returned (.tuple #[.slice A (fillG rows).length c, .int .i64 0]) ∧ w'.ownsRow w.heap.size 23 1 (.slice A (fillG rows).length c) (fillG rows).length hds ∧ PgsAt w' hds (fillG rows)
   else e = .returned (.tuple #[.slice none 0 0, .int .i64 (firstM rows)])) ∧ Below w.heap.size w w'
set_option maxRecDepth 6000 in
set_option maxHeartbeats 400000 in
theorem fill_walk {w : World} {A : Option Addr} {n c : Nat} {hds : List Value} {rows : Rows} (hl : RdL w A n hds rows) (hn : n ≤ 10000) : Calls Try.prog 43 #[.slice A n c] w (FillPost w rows) := by
  have hlen := hl.len
  have HL := Lib.hid hl
  have HN := Lib.hid hlen
  have HNew := Lib.hid pnew
  clear hl hlen
  go_enter Try.func43, Try.ntmps43
  go_wp2_with (go_at_call 31; refine (HNew.out _).mono ?_; rintro e w1 ⟨rfl, hg1, b1⟩; have HG1 := Lib.hid (PgAt.new hg1); clear hg1)
  go_loopw [4, 5, 13] (fun o q x wr => ∃ (k M : Nat) (B : Option Addr) (C : Nat) (hs : List Value) (ad : Addr) (cp : Nat), k ≤ n ∧ M ≤ k ∧ x = .int .i64 k ∧ o = .slice B M C ∧ q = .slice (some ad) 256 cp ∧ (fillF (rows.take k)).1.length = M ∧ firstM rows = firstM (rows.drop k) ∧ wr.ownsRow w.heap.size 23 1 (.slice B M C) M hs ∧ PgsAt wr hs (fillF (rows.take k)).1 ∧ PgAt wr (.slice (some ad) 256 cp) (fillF (rows.take k)).2 ∧ Below w.heap.size w wr) (fun _ _ x _ => n - (intOf x).toNat)
  case atStart => exact ⟨0, 0, none, 0, [], _, _, by omega, by omega, rfl, rfl, rfl, rfl, rfl, World.ownsRow_nil _ _ _ _, PgsAt.nil _, HG1.out, b1⟩
  case round =>
    clear b1
    obtain ⟨k, M, B, C, hs, ad, cp, hk, hMk, rfl, rfl, rfl, hM, hfm, ho, hps, hpg, bel⟩ := hrel
    have szr := bel.size
    have HG := Lib.hid (And.intro ho (And.intro hps (And.intro hpg bel)))
    by_cases hlt : k < n
    · obtain ⟨adl, D, rm, rc, r, rfl, had, hrk, hhk, hcell, hrv⟩ := HL.out.at_ hlt
      have hcell := cell_belowv hcell bel (by rw [add_block]; exact had)
      have hfs := fillF_snoc hrk
      have hfd := firstM_drop hrk
      obtain ⟨S, hS⟩ : ∃ S, S = fillF (rows.take k) := ⟨_, rfl⟩
      rw [← hS] at hM hps hpg HG hfs
      clear hhk hps hpg ho
      by_cases hm : mayE r = 0
      · rw [if_pos hm] at hfd
        have HFM := Lib.hid (hfm.trans hfd)
        by_cases hu : 256 < usedN (S.2 ++ [r])
        · have HC := Lib.hid (held_full (cc := rc) HG.out.2.2.1 (hrv.below bel) hm hu)
          have hu1 : ¬ 256 < usedN (([] : Rows) ++ [r]) := by
            have := (mayE_zero hm).2
            rw [List.nil_append, usedN_one]
            omega
          have HC2 := Lib.hid (fun W (b : Below w.heap.size w W) h (H : PgAt W h []) => held_yes (cc := rc) H (hrv.below b) hm hu1)
          have HSn := Lib.hid (show fillF (rows.take (k + 1)) = (S.1 ++ [S.2], [r]) by rw [hfs]; unfold stepF; rw [if_pos hu])
          have HM := Lib.hid hM
          clear hfs hfd hfm hm hu hu1 hS hrk bel hrv hM
          go_wp2_with (first
            | (go_at_call 32; refine (HC2.out _ B5.out _ HG5.out).mono ?_; rintro e w6 ⟨ad6, c6, rfl, hp6, b6⟩; have HP6 := Lib.hid hp6; have B6 := Lib.hid (B5.out.trans (b6.mono B5.out.size)); have HO6 := Lib.hid (own_below HO5.out b6); have HPS6 := Lib.hid (HPS5.out.below b6); clear hp6 b6)
            | (go_at_call 32; refine HC.out.mono ?_; rintro e w2 ⟨rfl, b2⟩; have HO2 := Lib.hid (own_below HG.out.1 b2); have HPS2 := Lib.hid ((HG.out.2.1.below b2).snoc (HG.out.2.2.1.below b2)); have B2 := Lib.hid (HG.out.2.2.2.trans (b2.mono szr)); clear b2)
            | (at_builtin; refine wp_append1 w.heap.size rfl (.tmp 25) (.tmp 27) 68 23 (.slice none 0 0) 1 24 rfl Try.underlying68 info_P rfl (by omega) (by omega) (.slice B M C) M _ [.slice (some ad) 256 cp] rfl rfl (by simp) rfl (by simp [Value.oneCell']) HO2.out B2.out.size (by omega) ?_; intro v1 w4 h4 t4 _; obtain ⟨A4, c4, rfl⟩ := own_slice h4; have B4 := Lib.hid (below_turn B2.out t4 B2.out.size (fun i hi => own_ge HO2.out hi)); have HPS4 := Lib.hid (HPS2.out.turn HO2.out (by decide) t4); have HO4 := Lib.hid h4; clear h4 t4)
            | (go_at_call 31; refine (HNew.out _).mono ?_; rintro e w5 ⟨rfl, hg5, b5⟩; have HG5 := Lib.hid (PgAt.new hg5); have B5 := Lib.hid (B4.out.trans (b5.mono B4.out.size)); have HO5 := Lib.hid (own_below HO4.out b5); have HPS5 := Lib.hid (HPS4.out.below b5); clear hg5 b5))
          go_roundw
          case rel =>
            refine ⟨k + 1, M + 1, A4, c4, _, ad6, c6, by omega, by omega, by go_num, rfl, rfl, ?_, HFM.out, HO6.out, ?_, ?_, B6.out⟩
            · rw [HSn.out, List.length_append, HM.out]
              rfl
            · rw [HSn.out]
              exact HPS6.out
            · rw [HSn.out]
              exact HP6.out
          case measure => simp [intOf]; omega
        · have HC := Lib.hid (held_yes (cc := rc) HG.out.2.2.1 (hrv.below bel) hm hu)
          have HSn := Lib.hid (show fillF (rows.take (k + 1)) = (S.1, S.2 ++ [r]) by rw [hfs]; unfold stepF; rw [if_neg hu])
          have HM := Lib.hid hM
          clear hfs hfd hfm hm hu hS hrk bel hrv hM
          go_wp2_with (go_at_call 32; refine HC.out.mono ?_; rintro e w2 ⟨ad6, c6, rfl, hp6, b2⟩; have HP6 := Lib.hid hp6; have HO2 := Lib.hid (own_below HG.out.1 b2); have HPS2 := Lib.hid (HG.out.2.1.below b2); have B2 := Lib.hid (HG.out.2.2.2.trans (b2.mono szr)); clear b2 hp6)
          go_roundw
          case rel =>
            refine ⟨k + 1, M, B, C, _, ad6, c6, by omega, by omega, by go_num, rfl, rfl, ?_, HFM.out, HO2.out, ?_, ?_, B2.out⟩
            · rw [HSn.out, HM.out]
            · rw [HSn.out]
              exact HPS2.out
            · rw [HSn.out]
              exact HP6.out
          case measure => simp [intOf]; omega
      · rw [if_neg hm] at hfd
        have HC := held_no (cc := rc) HG.out.2.2.1 (hrv.below bel) hm
        have hE := hfm.trans hfd
        have hE2 : mayE r ≠ 2 := by unfold mayE; split; decide; split <;> decide
        obtain ⟨E, hEE⟩ : ∃ E, E = mayE r := ⟨_, rfl⟩
        rw [← hEE] at HC hE hE2 hm
        have HC := Lib.hid HC
        have HE := Lib.hid (And.intro hE hm)
        have e1 : (E == 2) = false := by simpa using hE2
        have e2 : (E != 0) = true := by simpa using hm
        clear hfs hfd hfm hm hS hrk bel hrv hM hE hEE hE2
        go_wp2_with (go_at_call 32; refine HC.out.mono ?_; rintro e w2 ⟨rfl, b2⟩)
        go_ret2
        unfold FillPost
        rw [HE.out.1, if_neg HE.out.2]
        exact ⟨by trivial, HG.out.2.2.2.trans (b2.mono szr)⟩
    · obtain rfl : k = n := by omega
      have hfm0 : firstM rows = 0 := by rw [hfm, List.drop_eq_nil_iff.2 (by rw [HN.out]; omega)]; rfl
      rw [List.take_of_length_le (by rw [HN.out]; omega)] at hM HG
      have HM := Lib.hid (And.intro hM hfm0)
      clear hM hfm hfm0 ho hps hpg bel
      by_cases h0 : 0 < k
      · have h0I : (0 : Int) < k := by omega
        have HK := Lib.hid (show fillG rows = (fillF rows).1 ++ [(fillF rows).2] by unfold fillG; rw [if_neg (by intro e; rw [e] at HN; have := HN.out; simp at this; omega)])
        go_wp2_with (at_builtin; refine wp_append1 w.heap.size rfl (.tmp 43) (.tmp 45) 68 23 (.slice none 0 0) 1 24 rfl Try.underlying68 info_P rfl (by omega) (by omega) (.slice B M C) M _ [.slice (some ad) 256 cp] rfl rfl (by simp) rfl (by simp [Value.oneCell']) HG.out.1 szr (by omega) ?_; intro v1 w4 h4 t4 _; obtain ⟨A4, c4, rfl⟩ := own_slice h4; have B4 := Lib.hid (below_turn HG.out.2.2.2 t4 szr (fun i hi => own_ge HG.out.1 hi)); have HPS4 := Lib.hid ((HG.out.2.1.snoc HG.out.2.2.1).turn HG.out.1 (by decide) t4); have HO4 := Lib.hid h4; clear h4 t4)
        go_ret2
        unfold FillPost
        rw [if_pos HM.out.2, HK.out, List.length_append, HM.out.1]
        exact ⟨⟨_, _, _, rfl, HO4.out, HPS4.out⟩, B4.out⟩
      · obtain rfl : k = 0 := by omega
        obtain rfl : M = 0 := by omega
        have hr0 : rows = [] := List.eq_nil_of_length_eq_zero HN.out
        subst hr0
        have h0I : ¬ (0 : Int) < 0 := by omega
        go_wp2
        go_ret2
        unfold FillPost
        rw [if_pos HM.out.2]
        exact ⟨⟨B, C, _, rfl, HG.out.1, HG.out.2.1⟩, HG.out.2.2.2⟩
end Go.Proofs.Ytlldkdhpilcilaa
