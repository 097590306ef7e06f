/- The queue's methods, one contract each. -/
import Derived.Test.YtncapimnlgncpaaProg
import Derived.Test.YtncapimnlgncpaaComm
import Derived.Test.YtncapimnlgncpaaOwn
import Derived.LaidEqlPtr
import Derived.Deep.QuietTactic
import Derived.BigQuiet
import Derived.Outline
import Derived.Lib.Hide
namespace Go.Proofs.Ytncapimnlgncpaa
open Go.Conc Go.RowKit
namespace QI

theorem run_eql_chan_nil (w : World) (p : Option Nat) : (binOp .eql 52 (.chan p) (.chan none)).run Try.prog w = .ok (.bool p.isNone) w := by
  have h := Try.underlying52
  have g : ∀ d, (Op.equalIn (d + 1) 52 (.chan p) (.chan none)).run Try.prog w = .ok p.isNone w := fun d => by cases p <;> simp [Op.equalIn, run_underlying h]
  have g' : (Op.equal 52 (.chan p) (.chan none)).run Try.prog w = .ok p.isNone w := g 9999
  simp only [binOp]
  simp [g']

/-- The queue at block g, its channel at block c. -/
def At (w : World) (g c cap : Nat) (xs : List Value) (cl : Bool) : Prop :=
  w.heap[g]? = some (.cells #[.chan (some c), .bool cl] 54 (0, 0)) ∧ ∃ s r, w.heap[c]? = some (.chan cap xs.toArray cl s r false)
theorem At.ne {w : World} {g c cap : Nat} {xs : List Value} {cl : Bool} (h : At w g c cap xs cl) : g ≠ c := by
  rintro rfl
  obtain ⟨h1, s, r, h2⟩ := h
  rw [h1] at h2
  cases h2
theorem At.turn {S : Nat → Prop} {w w' : World} {g c cap : Nat} {xs : List Value} {cl : Bool} (h : At w g c cap xs cl) (ht : Turn S w w') (hg : ¬ S g) (hc : ¬ S c) : At w' g c cap xs cl := by
  obtain ⟨h1, s, r, h2⟩ := h
  exact ⟨ht.heap h1 hg, s, r, ht.heap h2 hc⟩

theorem closed_nil (w : World) : Calls Try.prog 23 #[.pointer none] w fun e w' => e = .returned (.bool true) ∧ w = w' := by
  go_enter Try.func23, Try.ntmps23
  go_wp2
  go_ret
  exact ⟨rfl, rfl⟩

theorem closed_at {w : World} {g c cap : Nat} {xs : List Value} {cl : Bool} (h : At w g c cap xs cl) :
    Calls Try.prog 23 #[.pointer (some ⟨g, 0, none⟩)] w fun e w' => e = .returned (.bool cl) ∧ w = w' := by
  obtain ⟨h1, s, r, h2⟩ := h
  have c0 : w.cell? ⟨g, 0, none⟩ = some (.chan (some c)) := cell_of_blk h1 0
  have c1 : w.cell? ⟨g, 1, none⟩ = some (.bool cl) := cell_of_blk h1 1
  have hq := run_eql_chan_nil
  clear h1 h2
  go_enter Try.func23, Try.ntmps23
  go_wp2
  go_ret
  exact ⟨rfl, rfl⟩

theorem len_at {w : World} {g c cap : Nat} {xs : List Value} {cl : Bool} (h : At w g c cap xs cl) :
    Calls Try.prog 13 #[.pointer (some ⟨g, 0, none⟩)] w fun e w' => e = .returned (.int .i64 xs.length) ∧ w = w' := by
  obtain ⟨h1, s, r, h2⟩ := h
  have c0 : w.cell? ⟨g, 0, none⟩ = some (.chan (some c)) := cell_of_blk h1 0
  have hl := fun ty => run_len_chan (P := Try.prog) 52 ty Try.underlying52 h2
  clear h1 h2
  go_enter Try.func13, Try.ntmps13
  go_wp2
  go_ret
  exact ⟨by simp, rfl⟩
theorem len_nil (w : World) : Calls Try.prog 13 #[.pointer none] w fun e w' => e = .returned (.int .i64 0) ∧ w = w' := by
  go_enter Try.func13, Try.ntmps13
  go_wp2
  go_ret
  exact ⟨rfl, rfl⟩
theorem room_closed {w : World} {g c cap : Nat} {xs : List Value} (h : At w g c cap xs true) :
    Calls Try.prog 21 #[.pointer (some ⟨g, 0, none⟩)] w fun e w' => e = .returned (.int .i64 0) ∧ w = w' := by
  go_enter Try.func21, Try.ntmps21
  go_wp2_with (go_at_call 23; refine (closed_at h).mono ?_; rintro e w' ⟨rfl, rfl⟩)
  go_ret
  exact ⟨rfl, rfl⟩
theorem room_nil (w : World) : Calls Try.prog 21 #[.pointer none] w fun e w' => e = .returned (.int .i64 0) ∧ w = w' := by
  go_enter Try.func21, Try.ntmps21
  go_wp2_with (go_at_call 23; refine (closed_nil _).mono ?_; rintro e w' ⟨rfl, rfl⟩)
  go_ret
  exact ⟨rfl, rfl⟩
theorem room_open {w : World} {g c cap : Nat} {xs : List Value} (h : At w g c cap xs false) (hl : xs.length ≤ cap) (hcap : cap ≤ 1024) :
    Calls Try.prog 21 #[.pointer (some ⟨g, 0, none⟩)] w fun e w' => e = .returned (.int .i64 (cap - xs.length)) ∧ ∃ n, w' = w.drewN n := by
  obtain ⟨h1, s, r, h2⟩ := id h
  have c0 : w.cell? ⟨g, 0, none⟩ = some (.chan (some c)) := cell_of_blk h1 0
  have hle := fun (w : World) h2 ty => run_len_chan (P := Try.prog) (w := w) (c := c) (cap := cap) (buf := xs.toArray) (closed := false) (s := s) (r := r) 52 ty Try.underlying52 h2
  have hca := fun (w : World) h2 ty => run_cap_chan (P := Try.prog) (w := w) (c := c) (cap := cap) (buf := xs.toArray) (closed := false) (s := s) (r := r) 52 ty Try.underlying52 h2
  have hd : ∀ n, (w.drewN n).heap[c]? = some (.chan cap xs.toArray false s r false) := fun _ => h2
  have hle' := fun n ty => hle (w.drewN n) (hd n) ty
  have hca' := fun n ty => hca (w.drewN n) (hd n) ty
  have hle0 := fun ty => hle w.drew h2 ty
  have hca0 := fun ty => hca w.drew h2 ty
  clear hle hca h1 hd
  go_enter Try.func21, Try.ntmps21
  go_wp2_with (go_at_call 23; refine (closed_at h).mono ?_; rintro e w' ⟨rfl, rfl⟩)
  go_quiet (fail)
  go_wp2
  go_ret
  exact ⟨by simp, _, rfl⟩

theorem put_nil (w : World) (v : Value) : Calls Try.prog 9 #[.pointer none, v] w fun e w' => e = .returned (.bool false) ∧ w = w' := by
  go_enter Try.func9, Try.ntmps9
  go_wp2_with (go_at_call 23; refine (closed_nil _).mono ?_; rintro e w' ⟨rfl, rfl⟩)
  go_ret
  exact ⟨rfl, rfl⟩
theorem put_closed {w : World} {g c cap : Nat} {xs : List Value} (h : At w g c cap xs true) (v : Value) :
    Calls Try.prog 9 #[.pointer (some ⟨g, 0, none⟩), v] w fun e w' => e = .returned (.bool false) ∧ w = w' := by
  go_enter Try.func9, Try.ntmps9
  go_wp2_with (go_at_call 23; refine (closed_at h).mono ?_; rintro e w' ⟨rfl, rfl⟩)
  go_ret
  exact ⟨rfl, rfl⟩
theorem put_full {w : World} {g c cap : Nat} {xs : List Value} (h : At w g c cap xs false) (hl : cap ≤ xs.length) (x : Int) :
    Calls Try.prog 9 #[.pointer (some ⟨g, 0, none⟩), (Value.int .i64) x] w fun e w' => e = .returned (.bool false) ∧ w = w' := by
  obtain ⟨h1, s, r, h2⟩ := id h
  have c0 : w.cell? ⟨g, 0, none⟩ = some (.chan (some c)) := cell_of_blk h1 0
  clear h1
  refine calls_of_wpN Try.func9 rfl ?_
  simp only [Try.ntmps9, List.size_toArray, List.length_cons, List.length_nil, Nat.reduceAdd, Nat.reduceSub, Array.replicate_succ,
     Array.replicate_zero, List.push_toArray, List.append_toArray, List.nil_append, List.cons_append]
  refine wpN_seq_k ?_
  intro K hK
  go_wp2
  refine wpN_seq_k ?_
  intro K hK
  go_wp2_with (go_at_call 23; refine (closed_at h).mono ?_; rintro e w' ⟨rfl, rfl⟩)
  refine wpN_seq_k ?_
  intro K hK
  go_wp2
  refine wpN_region_seq ?_
  show opsN _ _ _ [0, 1, 2] _ _
  refine opsN_send_full (v := (Value.int .i64) x) (z := (Value.int .i64 0)) (c := c) rfl rfl (by go_simp; rfl) h2 (by simpa using hl) ?_
  go_simp
  refine opsN_same (v := .int .i64 (-1)) rfl rfl (by go_simp) ?_
  go_simp
  refine opsN_same (v := .bool false) rfl rfl (by go_simp) ?_
  go_simp
  refine opsN_nil (wpN_of_wp ?_)
  go_wp2
  go_ret
  exact ⟨rfl, rfl⟩

/-- The channel's block behind a send. -/
theorem At.sent {w : World} {g c cap : Nat} {xs : List Value} {cl : Bool} (h : At w g c cap xs cl) (ys : List Value) (s r : Nat) : At (w.setChan c cap ys.toArray cl s r false) g c cap ys cl := by
  obtain ⟨h1, s', r', h2⟩ := id h
  exact ⟨(heap_setChan_other w c g cap _ cl s r false (fun e => h.ne e.symm)).trans h1, s, r, heap_setChan _ _ _ _ _ _ _ _ (lt_of_heap h2)⟩

theorem put_room {w : World} {g c cap : Nat} {xs : List Value} (h : At w g c cap xs false) (hl : xs.length < cap) (x : Int) :
    Calls Try.prog 9 #[.pointer (some ⟨g, 0, none⟩), (Value.int .i64) x] w fun e w' => e = .returned (.bool true) ∧ At w' g c cap (xs ++ [(Value.int .i64) x]) false ∧ Turn (· = c) w w' := by
  obtain ⟨h1, s, r, h2⟩ := id h
  have c0 : w.cell? ⟨g, 0, none⟩ = some (.chan (some c)) := cell_of_blk h1 0
  have hfin : At (w.setChan c cap (xs ++ [(Value.int .i64) x]).toArray false (s + 1) r false) g c cap (xs ++ [(Value.int .i64) x]) false ∧ Turn (· = c) w (w.setChan c cap (xs ++ [(Value.int .i64) x]).toArray false (s + 1) r false) :=
    ⟨h.sent _ _ _, (Turn.refl (· = c) w).setChan (.inl rfl) _ _ _ _ _ _⟩
  have H := Lib.hid hfin
  clear h1 hfin
  refine calls_of_wpN Try.func9 rfl ?_
  simp only [Try.ntmps9, List.size_toArray, List.length_cons, List.length_nil, Nat.reduceAdd, Nat.reduceSub, Array.replicate_succ,
     Array.replicate_zero, List.push_toArray, List.append_toArray, List.nil_append, List.cons_append]
  refine wpN_seq_k ?_
  intro K hK
  go_wp2
  refine wpN_seq_k ?_
  intro K hK
  go_wp2_with (go_at_call 23; refine (closed_at h).mono ?_; rintro e w' ⟨rfl, rfl⟩)
  refine wpN_seq_k ?_
  intro K hK
  go_wp2
  refine wpN_region_seq ?_
  show opsN _ _ _ [0, 1, 2] _ _
  refine opsN_send_room (v := (Value.int .i64) x) (z := (Value.int .i64 0)) (c := c) (s := s) (r := r) (tm := false) rfl rfl (by go_simp; rfl) h2 (by simpa using hl) ?_
  rw [List.push_toArray]; generalize (w.setChan c cap (xs ++ [(Value.int .i64) x]).toArray false (s + 1) r false) = W at H ⊢; go_simp
  refine opsN_same (v := .int .i64 (0)) rfl rfl (by go_simp) ?_
  go_simp
  refine opsN_same (v := .bool true) rfl rfl (by go_simp) ?_
  go_simp
  refine opsN_nil (wpN_of_wp ?_)
  go_wp2
  go_ret
  exact ⟨rfl, H.out⟩

/-! ### Take -/
theorem take_nil (w : World) : Calls Try.prog 10 #[.pointer none] w fun e w' => e = .returned (.tuple #[(Value.int .i64 0), .bool false]) ∧ w = w' := by
  refine calls_of_wpN Try.func10 rfl ?_
  simp only [Try.ntmps10, List.size_toArray, List.length_cons, List.length_nil, Nat.reduceAdd, Nat.reduceSub, Array.replicate_succ,
     Array.replicate_zero, List.push_toArray, List.append_toArray, List.nil_append, List.cons_append]
  refine wpN_of_wp ?_
  go_wp2
  go_ret2
  exact ⟨rfl, rfl⟩
theorem take_open_empty {w : World} {g c cap : Nat} (h : At w g c cap [] false) :
    Calls Try.prog 10 #[.pointer (some ⟨g, 0, none⟩)] w fun e w' => e = .returned (.tuple #[(Value.int .i64 0), .bool false]) ∧ w = w' := by
  obtain ⟨h1, s, r, h2⟩ := id h
  have c0 : w.cell? ⟨g, 0, none⟩ = some (.chan (some c)) := cell_of_blk h1 0
  clear h1
  refine calls_of_wpN Try.func10 rfl ?_
  simp only [Try.ntmps10, List.size_toArray, List.length_cons, List.length_nil, Nat.reduceAdd, Nat.reduceSub, Array.replicate_succ,
     Array.replicate_zero, List.push_toArray, List.append_toArray, List.nil_append, List.cons_append]
  refine wpN_seq_k ?_
  intro K hK
  go_wp2
  refine wpN_seq_k ?_
  intro K hK
  go_wp2
  refine wpN_seq_k ?_
  intro K hK
  go_wp2
  refine wpN_seq_k ?_
  intro K hK
  go_wp2
  refine wpN_region_seq ?_
  show opsN _ _ _ [0, 1, 2] _ _
  refine opsN_recv_none (z := (Value.int .i64 0)) (c := c) rfl rfl (by go_simp; rfl) h2 ?_
  go_simp
  refine opsN_same (v := .int .i64 (-1)) rfl rfl (by go_simp) ?_
  go_simp
  refine opsN_same (v := .bool false) rfl rfl (by go_simp) ?_
  go_simp
  refine opsN_nil (wpN_of_wp ?_)
  go_wp2
  go_ret2
  exact ⟨rfl, rfl⟩

theorem take_shut_empty {w : World} {g c cap : Nat} (h : At w g c cap [] true) :
    Calls Try.prog 10 #[.pointer (some ⟨g, 0, none⟩)] w fun e w' => e = .returned (.tuple #[(Value.int .i64 0), .bool false]) ∧ w = w' := by
  obtain ⟨h1, s, r, h2⟩ := id h
  have c0 : w.cell? ⟨g, 0, none⟩ = some (.chan (some c)) := cell_of_blk h1 0
  clear h1
  refine calls_of_wpN Try.func10 rfl ?_
  simp only [Try.ntmps10, List.size_toArray, List.length_cons, List.length_nil, Nat.reduceAdd, Nat.reduceSub, Array.replicate_succ,
     Array.replicate_zero, List.push_toArray, List.append_toArray, List.nil_append, List.cons_append]
  refine wpN_seq_k ?_
  intro K hK
  go_wp2
  refine wpN_seq_k ?_
  intro K hK
  go_wp2
  refine wpN_seq_k ?_
  intro K hK
  go_wp2
  refine wpN_seq_k ?_
  intro K hK
  go_wp2
  refine wpN_region_seq ?_
  show opsN _ _ _ [0, 1, 2] _ _
  refine opsN_recv_shut (z := (Value.int .i64 0)) (c := c) rfl rfl (by go_simp; rfl) h2 ?_
  go_simp
  refine opsN_same (v := .int .i64 (0)) rfl rfl (by go_simp) ?_
  go_simp
  refine opsN_same (v := .bool true) rfl rfl (by go_simp) ?_
  go_simp
  refine opsN_nil (wpN_of_wp ?_)
  go_wp2
  go_ret2
  exact ⟨rfl, rfl⟩

theorem take_empty {w : World} {g c cap : Nat} {cl : Bool} (h : At w g c cap [] cl) :
    Calls Try.prog 10 #[.pointer (some ⟨g, 0, none⟩)] w fun e w' => e = .returned (.tuple #[(Value.int .i64 0), .bool false]) ∧ w = w' := by
  cases cl
  · exact take_open_empty h
  · exact take_shut_empty h

theorem take_some {w : World} {g c cap : Nat} {cl : Bool} (x : Int) (xs : List Value) (h : At w g c cap ((Value.int .i64) x :: xs) cl) :
    Calls Try.prog 10 #[.pointer (some ⟨g, 0, none⟩)] w fun e w' => e = .returned (.tuple #[(Value.int .i64) x, .bool true]) ∧ At w' g c cap xs cl ∧ Turn (· = c) w w' := by
  obtain ⟨h1, s, r, h2⟩ := id h
  have c0 : w.cell? ⟨g, 0, none⟩ = some (.chan (some c)) := cell_of_blk h1 0
  have hx : ((Value.int .i64) x :: xs).toArray.extract 1 ((Value.int .i64) x :: xs).toArray.size = xs.toArray := by simp
  have hfin : At (w.setChan c cap xs.toArray cl s (r + 1) false) g c cap xs cl ∧ Turn (· = c) w (w.setChan c cap xs.toArray cl s (r + 1) false) :=
    ⟨h.sent _ _ _, (Turn.refl (· = c) w).setChan (.inl rfl) _ _ _ _ _ _⟩
  rw [← hx] at hfin
  have H := Lib.hid hfin
  clear h1 hfin hx h
  refine calls_of_wpN Try.func10 rfl ?_
  simp only [Try.ntmps10, List.size_toArray, List.length_cons, List.length_nil, Nat.reduceAdd, Nat.reduceSub, Array.replicate_succ,
     Array.replicate_zero, List.push_toArray, List.append_toArray, List.nil_append, List.cons_append]
  refine wpN_seq_k ?_
  intro K hK
  go_wp2
  refine wpN_seq_k ?_
  intro K hK
  go_wp2
  refine wpN_seq_k ?_
  intro K hK
  go_wp2
  refine wpN_seq_k ?_
  intro K hK
  go_wp2
  refine wpN_region_seq ?_
  show opsN _ _ _ [0, 1, 2] _ _
  refine opsN_recv_some (z := (Value.int .i64 0)) (c := c) (s := s) (r := r) (tm := false) rfl rfl (by go_simp; rfl) h2 (by simp) ?_
  generalize (w.setChan c cap (((Value.int .i64) x :: xs).toArray.extract 1 ((Value.int .i64) x :: xs).toArray.size) cl s (r + 1) false) = W at H ⊢; go_simp
  refine opsN_same (v := .int .i64 (0)) rfl rfl (by go_simp) ?_
  go_simp
  refine opsN_same (v := .bool true) rfl rfl (by go_simp) ?_
  go_simp
  refine opsN_nil (wpN_of_wp ?_)
  go_wp2
  go_ret2
  exact ⟨rfl, H.out⟩
/-! ### Close, New -/
theorem close_nil (w : World) : Calls Try.prog 22 #[.pointer none] w fun e w' => e = .returned (.bool false) ∧ w = w' := by
  go_enter Try.func22, Try.ntmps22
  go_wp2_with (go_at_call 23; refine (closed_nil _).mono ?_; rintro e w' ⟨rfl, rfl⟩)
  go_ret
  exact ⟨rfl, rfl⟩
theorem close_shut {w : World} {g c cap : Nat} {xs : List Value} (h : At w g c cap xs true) :
    Calls Try.prog 22 #[.pointer (some ⟨g, 0, none⟩)] w fun e w' => e = .returned (.bool false) ∧ w = w' := by
  go_enter Try.func22, Try.ntmps22
  go_wp2_with (go_at_call 23; refine (closed_at h).mono ?_; rintro e w' ⟨rfl, rfl⟩)
  go_ret
  exact ⟨rfl, rfl⟩
theorem close_open {w : World} {g c cap : Nat} {xs : List Value} (h : At w g c cap xs false) :
    Calls Try.prog 22 #[.pointer (some ⟨g, 0, none⟩)] w fun e w' => e = .returned (.bool true) ∧ At w' g c cap xs true ∧ Turn (fun k => k = g ∨ k = c) w w' := by
  obtain ⟨h1, s, r, h2⟩ := id h
  have c0 : w.cell? ⟨g, 0, none⟩ = some (.chan (some c)) := cell_of_blk h1 0
  have c1 : w.cell? ⟨g, 1, none⟩ = some (.bool false) := cell_of_blk h1 1
  have f1 : w.frozen? ⟨g, 1, none⟩ = false := free_of_blk h1 1
  have hb := blk_set h1 1 (.bool true)
  have c0' : (w.setCell ⟨g, 1, none⟩ (.bool true)).cell? ⟨g, 0, none⟩ = some (.chan (some c)) := cell_of_blk hb 0
  have hc' : (w.setCell ⟨g, 1, none⟩ (.bool true)).heap[c]? = some (.chan cap xs.toArray false s r false) := blk_far h2 (fun e => h.ne e.symm) _
  have hcl := fun ats ty => run_close_open (P := Try.prog) ats ty hc'
  have hat : At ((w.setCell ⟨g, 1, none⟩ (.bool true)).setChan c cap xs.toArray true s r false) g c cap xs true :=
    ⟨(heap_setChan_other _ c g cap _ true s r false (fun e => h.ne e.symm)).trans hb, s, r, heap_setChan _ _ _ _ _ _ _ _ (lt_of_heap hc')⟩
  have htu : Turn (fun k => k = g ∨ k = c) w ((w.setCell ⟨g, 1, none⟩ (.bool true)).setChan c cap xs.toArray true s r false) :=
    ((Turn.refl (fun k => k = g ∨ k = c) w).setCell (p := ⟨g, 1, none⟩) (.inl (.inl rfl)) _).setChan (.inl (.inr rfl)) _ _ _ _ _ _
  have hcl2 : ∀ ats ty, (Builtin.close_ ats ty #[.chan (some c)]).run Try.prog (w.setCell ⟨g, 1, none⟩ (.bool true)) = .ok (.tuple #[]) ((w.setCell ⟨g, 1, none⟩ (.bool true)).setChan c cap xs.toArray true s r false) := hcl
  have H := Lib.hid (And.intro hat htu)
  generalize (w.setCell ⟨g, 1, none⟩ (.bool true)).setChan c cap xs.toArray true s r false = W at H hcl2
  clear hat htu hcl hc' hb h1 h2
  go_enter Try.func22, Try.ntmps22
  go_wp2_with (go_at_call 23; refine (closed_at h).mono ?_; rintro e w' ⟨rfl, rfl⟩)
  go_ret
  exact ⟨rfl, H.out⟩

theorem info_e : (Try.prog.info? 3).map (fun i => (i.zero, i.size, i.bytes)) = some (some (Value.int .i64 0), 1, 8) := by kernel_rfl
theorem new_bad (n : Int) (w : World) (h : n < 1 ∨ 1024 < n) : Calls Try.prog 7 #[.int .i64 n] w fun e w' => e = .returned (.tuple #[.pointer none, .int .i64 1]) ∧ w = w' := by
  rcases h with h | h
  · go_enter Try.func7, Try.ntmps7
    go_wp2
    go_ret2
    exact ⟨rfl, rfl⟩
  · have h' : ¬ n < 1 := by omega
    go_enter Try.func7, Try.ntmps7
    go_wp2
    go_ret2
    exact ⟨rfl, rfl⟩
theorem new_ok (n : Nat) (w : World) (h1 : 1 ≤ n) (h2 : n ≤ 1024) :
    Calls Try.prog 7 #[.int .i64 n] w fun e w' => ∃ g c, e = .returned (.tuple #[.pointer (some ⟨g, 0, none⟩), .int .i64 0]) ∧ w.heap.size ≤ g ∧ w.heap.size ≤ c ∧ At w' g c n [] false ∧ Below w.heap.size w w' := by
  obtain ⟨i0, hi, _, _, hby⟩ := info_parts info_e
  have hmk : ∀ w : World, (Instr.makeChan 52 (.int .i64 n)).run Try.prog w = .ok (.chan (some w.heap.size)) (w.alloc (.chan n #[] false 0 0 false)) :=
    fun w => run_makeChan Try.underlying52 hi .i64 n (by omega) (by rw [hby]; omega)
  have hat : At ((w.alloc (.chan n #[] false 0 0 false)).alloc (.cells #[.chan (some w.heap.size), .bool false] 54)) (w.heap.size + 1) w.heap.size n [] false := by
    refine ⟨?_, 0, 0, blk_alloc (heap_alloc_new _ _) _⟩
    have := heap_alloc_new (w.alloc (.chan n #[] false 0 0 false)) (.cells #[.chan (some w.heap.size), .bool false] 54)
    simpa using this
  have hb : Below w.heap.size w ((w.alloc (.chan n #[] false 0 0 false)).alloc (.cells #[.chan (some w.heap.size), .bool false] 54)) := ((Below.refl _ _).alloc (Nat.le_refl _) _).alloc (by simp) _
  have H := Lib.hid (And.intro hat hb)
  clear hat hb hi hby
  go_enter Try.func7, Try.ntmps7
  go_wp2
  go_ret2
  exact ⟨_, _, rfl, by omega, by omega, H.out⟩

/-! ### All -/
def AllInv (w0 : World) (g c cap : Nat) (cl : Bool) (xs : List Int) (v : Value) (wr : World) : Prop :=
  ∃ k, k ≤ xs.length ∧ wr.ownsRow w0.heap.size 3 1 v k ((xs.take k).map (Value.int .i64)) ∧ At wr g c cap ((xs.drop k).map (Value.int .i64)) cl ∧ Turn (· = c) w0 wr
theorem all_at {w : World} {g c cap : Nat} {cl : Bool} (xs : List Int) (hx : xs.length ≤ 1024) (h : At w g c cap (xs.map (Value.int .i64)) cl) :
    Calls Try.prog 11 #[.pointer (some ⟨g, 0, none⟩)] w fun e w' => ∃ v, e = .returned v ∧ w'.ownsRow w.heap.size 3 1 v xs.length (xs.map (Value.int .i64)) ∧ At w' g c cap [] cl ∧ Turn (· = c) w w' := by
  have hc0 : c < w.heap.size := by obtain ⟨_, s, r, h2⟩ := h; exact lt_of_heap h2
  have hg0 : g < w.heap.size := lt_of_heap h.1
  go_enter Try.func11, Try.ntmps11
  go_wp2
  go_loopw [3] (fun v wr => AllInv w g c cap cl xs v wr) (fun v _ => xs.length - lenOf v)
  case atStart => exact ⟨0, Nat.zero_le _, World.ownsRow_nil _ _ _ _, h, Turn.refl _ _⟩
  case round =>
    obtain ⟨k, hk, hown, hat, ht⟩ := hrel
    by_cases hlt : k < xs.length
    · rw [List.drop_eq_getElem_cons hlt, List.map_cons] at hat
      go_wp2_with (first
        | (go_at_call 10; refine (take_some _ _ hat).mono ?_; rintro e w1 ⟨rfl, hat1, ht1⟩)
        | (at_builtin; refine wp_append1 w.heap.size rfl (.tmp 14) (.tmp 16) 22 3 (Value.int .i64 0) 1 8 rfl Try.underlying22 info_e rfl (by omega) (by omega) _ k _ [(Value.int .i64) xs[k]] rfl rfl rfl (by simp [Value.oneCell']) (own_turn hown ht1 (fun j hj e => by have := own_ge hown hj; omega)) (Nat.le_trans ht.size ht1.size) (by omega) ?_; intro v1 w2 hown2 ht2 hor))
      go_roundw
      case rel =>
        refine ⟨k + 1, by omega, ?_, hat1.turn ht2 ?_ ?_, ?_⟩
        · rw [List.take_succ_eq_append_getElem hlt, List.map_append]; exact hown2
        · exact fun e => Nat.not_le.2 hg0 (own_ge hown e)
        · exact fun e => Nat.not_le.2 hc0 (own_ge hown e)
        · exact (ht.trans ht1).then_ ht2 (fun j hj => .inr (own_ge hown hj))
      case measure => have := own_len hown; have := own_len hown2; omega
    · obtain rfl : k = xs.length := by omega
      rw [List.drop_length, List.map_nil] at hat
      rw [List.take_length] at hown
      go_wp2_with (go_at_call 10; refine (take_empty hat).mono ?_; rintro e w1 ⟨rfl, rfl⟩)
      go_ret
      exact ⟨_, rfl, hown, hat, ht⟩
end QI
end Go.Proofs.Ytncapimnlgncpaa
