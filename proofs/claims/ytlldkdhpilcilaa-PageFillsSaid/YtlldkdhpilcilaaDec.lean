/- what bytes are as a value, as a row; no program in sight. -/
import Derived.Test.YtlldkdhpilcilaaRPut
namespace Go.Proofs.Ytlldkdhpilcilaa
open Go.RowKit
set_option linter.unusedVariables false
set_option linter.unusedSimpArgs false

def isB (bs : List Int) : Prop := ∀ y ∈ bs, 0 ≤ y ∧ y ≤ 255
def strOf (bs : List Int) : ByteArray := ⟨(bs.map fun i => UInt8.ofNat i.toNat).toArray⟩
def bigE (bs : List Int) : Int := bs.foldl (fun a b => a * 256 + b) 0
def rawV : List Int → Option (V × Nat)
  | [] => none
  | k :: t =>
    if k = 1 then (match t with | b :: _ => some (⟨1, b, ⟨#[]⟩⟩, 2) | [] => none)
    else if k = 2 then (if 7 ≤ t.length then some (⟨2, bigE (t.take 7) - 9007199254740992, ⟨#[]⟩⟩, 8) else none)
    else if k = 3 then (match t with | m :: u => if m.toNat ≤ u.length then some (⟨3, 0, strOf (u.take m.toNat)⟩, 2 + m.toNat) else none | [] => none)
    else some (⟨k, 0, ⟨#[]⟩⟩, 1)
def decV (bs : List Int) : Option (V × Nat) := (rawV bs).filter fun x => vOk x.1
def decA (bs : List Int) : Nat → Nat → List V → Option (List V × Nat)
  | 0, a, acc => some (acc, a)
  | k + 1, a, acc => match decV (bs.drop a) with
    | none => none
    | some (v, m) => decA bs k (a + m) (acc ++ [v])
def decR : List Int → Option (List V × Nat)
  | [] => none
  | c :: t => if c ≤ 32 then decA (c :: t) c.toNat 1 [] else none

theorem isB.drop {bs : List Int} (h : isB bs) (k : Nat) : isB (bs.drop k) := fun y hy => h y (List.mem_of_mem_drop hy)
theorem isB.take {bs : List Int} (h : isB bs) (k : Nat) : isB (bs.take k) := fun y hy => h y (List.mem_of_mem_take hy)
theorem isB.append {a b : List Int} (h : isB a) (k : isB b) : isB (a ++ b) := fun y hy => (List.mem_append.1 hy).elim (h y) (k y)
theorem strOf_size (bs : List Int) : (strOf bs).size = bs.length := by
  show ((bs.map fun i => UInt8.ofNat i.toNat).toArray).size = _
  simp
theorem bytes_str {bs : List Int} (h : isB bs) : bytesOf (strOf bs) = bs := by
  show ((bs.map fun i => UInt8.ofNat i.toNat).toArray).toList.map (fun b => (b.toNat : Int)) = bs
  rw [List.toList_toArray, List.map_map]
  conv => rhs; rw [← List.map_id bs]
  refine List.map_congr_left fun y hy => ?_
  have := h y hy
  simp only [Function.comp_def, UInt8.toNat_ofNat', id]
  omega
theorem str_bytes (s : ByteArray) : strOf (bytesOf s) = s := by
  unfold strOf bytesOf
  obtain ⟨⟨l⟩⟩ := s
  simp [List.map_map, Function.comp_def]
theorem empty_of_size {s : ByteArray} (h : s.size = 0) : s = ⟨#[]⟩ := by
  obtain ⟨⟨l⟩⟩ := s
  have : l.length = 0 := h
  rw [List.eq_nil_of_length_eq_zero this]
theorem isB_bytes (s : ByteArray) : isB (bytesOf s) := by
  intro y hy
  obtain ⟨b, _, rfl⟩ := List.mem_map.1 hy
  have := b.toNat_lt
  omega
theorem big_be (m : Int) (h0 : 0 ≤ m) (h1 : m < 72057594037927936) : bigE (be7 m) = m := by
  simp only [bigE, be7, List.foldl]
  omega
theorem be_big (bs : List Int) (h : isB bs) (hl : bs.length = 7) : be7 (bigE bs) = bs := by
  match bs, hl with
  | [a, b, c, d, e, f, g], _ =>
    have ha := h a (by simp)
    have hb := h b (by simp)
    have hc := h c (by simp)
    have hd := h d (by simp)
    have he := h e (by simp)
    have hf := h f (by simp)
    have hg := h g (by simp)
    simp only [bigE, be7, List.foldl]
    refine List.cons_eq_cons.2 ⟨by omega, List.cons_eq_cons.2 ⟨by omega, List.cons_eq_cons.2 ⟨by omega, List.cons_eq_cons.2 ⟨by omega, List.cons_eq_cons.2 ⟨by omega, List.cons_eq_cons.2 ⟨by omega, List.cons_eq_cons.2 ⟨by omega, rfl⟩⟩⟩⟩⟩⟩⟩
theorem isB_be (m : Int) : isB (be7 m) := by
  intro y hy
  simp only [be7, List.mem_cons, List.not_mem_nil, or_false] at hy
  omega
theorem isB_encV (v : V) (h : vOk v = true) : isB (encV v) := by
  unfold vOk at h
  have h := of_decide_eq_true h
  unfold encV
  split
  · intro y hy
    simp only [List.mem_cons, List.not_mem_nil, or_false] at hy
    omega
  · split
    · intro y hy
      rcases List.mem_cons.1 hy with e | e
      · omega
      · exact isB_be _ y e
    · split
      · intro y hy
        rcases List.mem_cons.1 hy with e | e
        · omega
        · rcases List.mem_cons.1 e with e | e
          · omega
          · exact isB_bytes _ y e
      · intro y hy
        simp at hy
        omega
theorem decV_enc (v : V) (h : vOk v = true) (t : List Int) : decV (encV v ++ t) = some (v, (encV v).length) := by
  have hv := h
  unfold vOk at h
  have h := of_decide_eq_true h
  obtain ⟨k, n, s⟩ := v
  simp only at h
  unfold decV
  rcases h with ⟨rfl, rfl, hs⟩ | ⟨rfl, hn, hs⟩ | ⟨rfl, h1, h2, hs⟩ | ⟨rfl, rfl, hs⟩
  · obtain rfl := empty_of_size hs
    simp [encV, rawV, hv]
  · obtain rfl := empty_of_size hs
    simp [encV, rawV, hv]
  · obtain rfl := empty_of_size hs
    have e := big_be (n + 9007199254740992) (by omega) (by omega)
    have ht : List.take 7 (be7 (n + 9007199254740992) ++ t) = be7 (n + 9007199254740992) := List.take_left' rfl
    have hl : (be7 (n + 9007199254740992)).length = 7 := rfl
    have e3 : rawV (2 :: (be7 (n + 9007199254740992) ++ t)) = some (⟨2, n, ⟨#[]⟩⟩, 8) := by
      simp only [rawV]
      rw [if_neg (by decide), if_pos trivial, if_pos (by rw [List.length_append]; omega), ht, e]
      simp
    simp only [encV, List.cons_append]
    rw [if_neg (by decide), if_pos trivial, List.cons_append, e3]
    simp [hv, hl]
  · have hl : (bytesOf s).length = s.size := bytesOf_length s
    have ht : List.take s.size (bytesOf s ++ t) = bytesOf s := List.take_left' hl
    simp only [encV, rawV, List.cons_append, Int.toNat_natCast, ht, str_bytes, List.length_append, hl]
    simp [hv]
    exact ⟨by rw [hl]; omega, by rw [ht, str_bytes], by rw [hl]; omega⟩
theorem decV_sound {bs : List Int} {v : V} {m : Nat} (hb : isB bs) (h : decV bs = some (v, m)) : vOk v = true ∧ bs.take m = encV v ∧ m = (encV v).length ∧ m ≤ bs.length := by
  unfold decV at h
  obtain ⟨h, hv⟩ := Option.filter_eq_some_iff.1 h
  refine ⟨hv, ?_⟩
  match bs, hb, h with
  | k :: t, hb, h =>
    have hk := hb k (by simp)
    simp only at hv
    simp only [rawV] at h
    split at h
    · subst k
      match t, h with
      | b :: t, h =>
        simp only [Option.some.injEq, Prod.mk.injEq] at h
        obtain ⟨rfl, rfl⟩ := h
        simp [encV]
    · split at h
      · subst k
        split at h
        · next hl =>
          simp only [Option.some.injEq, Prod.mk.injEq] at h
          obtain ⟨rfl, rfl⟩ := h
          have e : be7 (bigE (t.take 7)) = t.take 7 := be_big _ (isB.take (fun y hy => hb y (by simp [hy])) 7) (by simp; omega)
          simp only [encV, Int.sub_add_cancel, e]
          simp
          omega
        · cases h
      · split at h
        · subst k
          match t, h with
          | m0 :: u, h =>
            simp only at h
            split at h
            · next hl =>
              simp only [Option.some.injEq, Prod.mk.injEq] at h
              obtain ⟨rfl, rfl⟩ := h
              have hm := hb m0 (by simp)
              have e : bytesOf (strOf (u.take m0.toNat)) = u.take m0.toNat := bytes_str (isB.take (fun y hy => hb y (by simp [hy])) _)
              have e2 : (strOf (u.take m0.toNat)).size = m0.toNat := by rw [strOf_size]; simp; omega
              simp only [encV, e, e2]
              have e3 : ((m0.toNat : Nat) : Int) = m0 := by omega
              rw [e3]
              have e4 : 2 + m0.toNat = m0.toNat + 1 + 1 := by omega
              rw [e4]
              simp
              omega
            · cases h
        · simp only [Option.some.injEq, Prod.mk.injEq] at h
          obtain ⟨rfl, rfl⟩ := h
          unfold vOk at hv
          have hv := of_decide_eq_true hv
          simp only at hv
          have hk0 : k = 0 := by omega
          subst hk0
          simp [encV]
theorem encV_pos (v : V) : 1 ≤ (encV v).length := by
  unfold encV
  split
  · simp
  · split
    · simp
    · split <;> simp
theorem decA_enc (bs : List Int) (t : List Int) : ∀ (r : List V) (a : Nat) (acc : List V), r.all vOk = true → bs.drop a = r.flatMap encV ++ t → decA bs r.length a acc = some (acc ++ r, a + (r.flatMap encV).length)
  | [], a, acc, _, _ => by simp [decA]
  | v :: r, a, acc, h, hd => by
    simp only [List.all_cons, Bool.and_eq_true] at h
    have hd1 : bs.drop a = encV v ++ (r.flatMap encV ++ t) := by rw [hd]; simp
    simp only [List.length_cons, decA, hd1, decV_enc v h.1]
    rw [decA_enc bs t r (a + (encV v).length) (acc ++ [v]) h.2 (by rw [← List.drop_drop, hd1, List.drop_left])]
    simp
    omega
theorem decA_sound (bs : List Int) (hb : isB bs) : ∀ (k a : Nat) (acc r : List V) (m : Nat), a ≤ bs.length → decA bs k a acc = some (r, m) → ∃ r', r = acc ++ r' ∧ r'.length = k ∧ r'.all vOk = true ∧ (bs.drop a).take (m - a) = r'.flatMap encV ∧ m = a + (r'.flatMap encV).length ∧ m ≤ bs.length
  | 0, a, acc, r, m, ha, h => by
    simp only [decA, Option.some.injEq, Prod.mk.injEq] at h
    obtain ⟨rfl, rfl⟩ := h
    exact ⟨[], by simp, rfl, rfl, by simp, by simp, ha⟩
  | k + 1, a, acc, r, m, ha, h => by
    unfold decA at h
    split at h
    · cases h
    · next v mv e =>
      obtain ⟨h1, h2, h3, h4⟩ := decV_sound (hb.drop a) e
      rw [List.length_drop] at h4
      obtain ⟨r', e1, e2, e3, e4, e5, e6⟩ := decA_sound bs hb k (a + mv) _ r m (by omega) h
      refine ⟨v :: r', by simp [e1], by simp [e2], by simp [h1, e3], ?_, by simp only [List.flatMap_cons, List.length_append]; omega, e6⟩
      rw [List.flatMap_cons, ← e4, ← h2, ← List.drop_drop]
      have : m - a = mv + (m - (a + mv)) := by omega
      rw [this, List.take_add]
theorem decR_enc (r : List V) (h : rowOk r = true) (t : List Int) : decR (encR r ++ t) = some (r, (encR r).length) := by
  unfold rowOk at h
  simp only [Bool.and_eq_true, decide_eq_true_eq] at h
  have := decA_enc (encR r ++ t) t r 1 [] h.2 (by simp [encR])
  simp only [encR, List.cons_append, decR, Int.toNat_natCast] at this ⊢
  rw [if_pos (by omega), this]
  simp
  omega
theorem decR_sound {bs : List Int} {r : List V} {m : Nat} (hb : isB bs) (h : decR bs = some (r, m)) : rowOk r = true ∧ bs.take m = encR r ∧ m = (encR r).length ∧ m ≤ bs.length := by
  match bs, hb, h with
  | c :: t, hb, h =>
    have hc := hb c (by simp)
    simp only [decR] at h
    split at h
    · obtain ⟨r', e1, e2, e3, e4, e5, e6⟩ := decA_sound (c :: t) hb _ 1 [] r m (by simp) h
      have : r = r' := by simpa using e1
      subst this
      refine ⟨by simp [rowOk, e3]; omega, ?_, by simp only [encR, List.length_cons]; omega, e6⟩
      have : m = (m - 1) + 1 := by omega
      rw [this, List.take_succ_cons, encR, ← e4]
      simp
      omega
    · cases h
theorem isB_encR (r : List V) (h : rowOk r = true) : isB (encR r) := by
  unfold rowOk at h
  simp only [Bool.and_eq_true, decide_eq_true_eq, List.all_eq_true] at h
  intro y hy
  rcases List.mem_cons.1 hy with e | e
  · omega
  · obtain ⟨v, hv, hy⟩ := List.mem_flatMap.1 e
    exact isB_encV v (h.2 v hv) y hy
end Go.Proofs.Ytlldkdhpilcilaa
