/- the number of bytes. -/
import Derived.Test.YtlldkdhpilcilaaRef
namespace Go.Proofs.Ytlldkdhpilcilaa
open Go.RowKit

def hstep (h c : Int) : Int := IntKind.u64.wrap (bits .xor .u64 h (IntKind.u64.wrap c) * 1099511628211)
def hfold (s : Int) (bs : List Int) : Int := bs.foldl hstep s
def hfin (x : Int) : Int := bits .xor .u64 x (x / 4294967296)
def hashB (seed : Int) (bs : List Int) : Int := hfin (hfold (IntKind.u64.wrap (seed + 14695981039346656037)) bs)
theorem hfold_snoc {s : Int} {bs : List Int} {k : Nat} (hl : k < bs.length) : hfold s (bs.take (k + 1)) = hstep (hfold s (bs.take k)) (bs.getD k 0) := by
  unfold hfold
  rw [take_snoc bs 0 hl, List.foldl_append]
  rfl
theorem take_walk {w : World} {b : Nat} {h c : Int} (h0 : w.heap[b]? = some (.cells #[.int .u64 h] 79)) :
    Calls Try.prog 50 #[.pointer (some ⟨b, 0, none⟩), .int .u8 c] w fun e w' => e = .returned (.tuple #[]) ∧ w'.heap[b]? = some (.cells #[.int .u64 (hstep h c)] 79) ∧ Turn (fun k => k = b) w w' := by
  have c0 : w.cell? ⟨b, 0, none⟩ = some (.int .u64 h) := cell_of_blk h0 0
  have f0 : w.frozen? ⟨b, 0, none⟩ = false := free_of_blk h0 0
  go_enter Try.func50, Try.ntmps50
  go_wp2
  go_end0
  exact ⟨rfl, blk_set h0 0 _, (Turn.refl (fun k => k = b) _).setCell (.inl rfl) _⟩
theorem each_walk {w : World} {A : Option Addr} {n c b : Nat} (s : Int) (bs : List Int) (hr : Rd1 w A n (u8s bs)) (h0 : w.heap[b]? = some (.cells #[.int .u64 s] 79)) (hne : ∀ ad, A = some ad → 0 < n → ad.block ≠ b) :
    Calls Try.prog 49 #[.slice A n c, .func (.func 50) #[.pointer (some ⟨b, 0, none⟩)] #[]] w fun e w' => e = .returned (.tuple #[]) ∧ w'.heap[b]? = some (.cells #[.int .u64 (hfold s bs)] 79) ∧ Turn (fun k => k = b) w w' := by
  have hn := hr.2.1
  have hbl : bs.length = n := by simpa using hr.1
  go_enter Try.func49, Try.ntmps49
  go_wp2
  go_loopw [8] (fun i wr => ∃ k : Nat, k ≤ n ∧ i = .int .i64 k ∧ wr.heap[b]? = some (.cells #[.int .u64 (hfold s (bs.take k))] 79) ∧ Turn (fun k => k = b) w wr) (fun i _ => n - (intOf i).toNat)
  case atStart => exact ⟨0, by omega, rfl, h0, Turn.refl _ _⟩
  case round =>
    obtain ⟨k, hk, rfl, hb, ht⟩ := hrel
    by_cases hlt : k < n
    · obtain ⟨ad, rfl, had, hc⟩ := (hr.turn ht (fun ad e => hne ad e (by omega))).at2 hlt
      have hl : k < bs.length := by omega
      rw [getD_map 0 hl] at hc
      have H2 := hfold_snoc (s := s) hl
      obtain ⟨cc, hcc⟩ : ∃ cc, cc = bs.getD k 0 := ⟨_, rfl⟩
      rw [← hcc] at hc H2
      have H2 := Lib.hid H2
      have HT := Lib.hid (take_walk (c := cc) hb)
      clear hcc
      clear hb hr
      go_wp2_with (go_at_call 50; refine HT.out.mono ?_; rintro e w1 ⟨rfl, hb1, t1⟩)
      rw [← H2.out] at hb1
      go_roundw
      case rel => exact ⟨k + 1, by omega, by go_num, hb1, ht.trans t1⟩
      case measure => simp [intOf]; omega
    · rw [List.take_of_length_le (by omega)] at hb
      go_wp2
      go_end0
      exact ⟨rfl, hb, ht⟩
theorem bytes_walk {w : World} {A : Option Addr} {n c : Nat} (seed : Int) (bs : List Int) (hr : Rd1 w A n (u8s bs)) :
    Calls Try.prog 15 #[.int .u64 seed, .slice A n c] w fun e w' => e = .returned (.int .u64 (hashB seed bs)) ∧ Below w.heap.size w w' := by
  obtain ⟨s, hs⟩ : ∃ s, s = IntKind.u64.wrap (seed + 14695981039346656037) := ⟨_, rfl⟩
  have HX := Lib.hid (show hashB seed bs = hfin (hfold s bs) by rw [hs]; rfl)
  have e1 : Below w.heap.size w (w.alloc (.cells #[.int .u64 s] 79)) := (Below.refl _ _).alloc (Nat.le_refl _) _
  have HE := Lib.hid (each_walk (c := c) s bs (hr.below e1) (heap_alloc_new w _) (fun ad e hn => by obtain ⟨ad', e', hlt, _⟩ := hr.2.2 hn; rw [e] at e'; injection e' with e'; subst e'; omega))
  rw [hs] at HE
  have HS := Lib.hid hs
  clear hs hr
  go_enter Try.func15, Try.ntmps15
  go_wp2_with (go_at_call 49; refine HE.out.mono ?_; rintro e w1 ⟨rfl, hb1, t1⟩; have c1 := cell_of_blk hb1 0)
  go_ret
  rw [HX.out, HS.out]
  refine ⟨rfl, ((Below.refl _ _).alloc (Nat.le_refl _) _).trans (t1.below (B := w.heap.size) (by simp) (by simp))⟩
theorem refbytes {w : World} {A : Option Addr} {n c : Nat} (seed : Int) (bs : List Int) (hr : Rd1 w A n (u8s bs)) :
    Calls Try.prog 16 #[.int .u64 seed, .slice A n c] w fun e w' => e = .returned (.int .u64 (hashB seed bs)) ∧ Below w.heap.size w w' := by
  have hn := hr.2.1
  have hbl : bs.length = n := by simpa using hr.1
  obtain ⟨s, hs⟩ : ∃ s, s = IntKind.u64.wrap (seed + 14695981039346656037) := ⟨_, rfl⟩
  have HX := Lib.hid (show hashB seed bs = hfin (hfold s bs) by rw [hs]; rfl)
  have HS := Lib.hid hs
  clear hs
  go_enter Try.func16, Try.ntmps16
  go_wp2
  go_loopw [5, 6] (fun h i wr => ∃ k : Nat, k ≤ n ∧ i = .int .i64 k ∧ h = .int .u64 (hfold s (bs.take k)) ∧ Below w.heap.size w wr) (fun _ i _ => n - (intOf i).toNat)
  case atStart => exact ⟨0, by omega, rfl, by rw [HS.out]; rfl, Below.refl _ _⟩
  case round =>
    obtain ⟨k, hk, rfl, rfl, bel⟩ := hrel
    by_cases hlt : k < n
    · obtain ⟨ad, rfl, had, hc⟩ := (hr.below bel).at2 hlt
      have hl : k < bs.length := by omega
      rw [getD_map 0 hl] at hc
      have H2 := hfold_snoc (s := s) hl
      obtain ⟨cc, hcc⟩ : ∃ cc, cc = bs.getD k 0 := ⟨_, rfl⟩
      rw [← hcc] at hc H2
      have H2 := Lib.hid H2
      clear hr hcc
      go_wp2
      go_roundw
      case rel => exact ⟨k + 1, by omega, by go_num, by rw [H2.out, hstep], bel⟩
      case measure => simp [intOf]; omega
    · go_wp2
      go_ret
      rw [HX.out]
      rw [List.take_of_length_le (by omega)]
      exact ⟨rfl, bel⟩
end Go.Proofs.Ytlldkdhpilcilaa
