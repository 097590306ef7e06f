/- A select with a default in one goroutine, as a law of the kit's walk: a walk of a call whose frame is an ordinary one. -/
import Derived.Conc.LoneCalls
import Derived.Conc.LoneSelectN
import Derived.WalkKit
import Derived.KernelRfl
namespace Go.Proofs.Ytncapimnlgncpaa
open Go.Conc Go.RowKit

def wpN (P : Program) (c : Code) (Q : Exit → Act → World → Prop) (a : Act) (w : World) : Prop :=
  ∀ (b : Frame) (k : List Item) (cs : List Frame), b.kind = .normal →
    ∃ e a' w', Q e a' w' ∧ Arrives P (lone (b.at a (.code c :: k)) cs w) b k cs e a' w'

def opsN (P : Program) (ops : Array Oper) (Q : Exit → Act → World → Prop) (l : List Nat) (a : Act) (w : World) : Prop :=
  ∀ (b : Frame) (k : List Item) (cs : List Frame), b.kind = .normal →
    ∃ e a' w', Q e a' w' ∧ Arrives P (lone (b.at a (.inRegion ops l :: k)) cs w) b k cs e a' w'

section
variable {P : Program} {Q : Exit → Act → World → Prop} {a : Act} {w : World}

theorem wpN_of_wp {c : Code} (h : c.wp P Q a w) : wpN P c Q a w := fun b k cs _ => h b k cs

theorem wpN_seq {x y : Code} (h : wpN P x (Exit.then (wpN P y Q) Q) a w) : wpN P (Code.seq x y) Q a w := by
  intro b k cs hb
  obtain ⟨e, a₁, w₁, hq, harr⟩ := h b (.code y :: k) cs hb
  cases e with
  | normal =>
    obtain ⟨e₂, a₂, w₂, hq₂, harr₂⟩ := hq b k cs hb
    exact ⟨e₂, a₂, w₂, hq₂, .of_steps (.head step_seq harr) harr₂⟩
  | exit id => exact ⟨_, a₁, w₁, hq, .of_steps (.one step_seq) (.pass (x := .code y) rfl (fun _ _ => .inl (by simp)) harr)⟩
  | goto l => exact ⟨_, a₁, w₁, hq, .of_steps (.one step_seq) (.pass (x := .code y) rfl (fun _ _ => .inl (by simp)) harr)⟩
  | ret => exact ⟨_, a₁, w₁, hq, .of_steps (.one step_seq) (.pass (x := .code y) rfl (fun _ _ => .inl (by simp)) harr)⟩
  | panic ch => exact ⟨_, a₁, w₁, hq, .of_steps (.one step_seq) (.pass (x := .code y) rfl (fun _ _ => .inl (by simp)) harr)⟩
  | outgrown => exact ⟨_, a₁, w₁, hq, .of_steps (.one step_seq) (.pass (x := .code y) rfl (fun _ _ => .inl (by simp)) harr)⟩

/-- The first part by the kit's own walk. -/
theorem wpN_seq_k {x y : Code} (h : ∀ K : Act → World → Prop, (∀ a w, wpN P y Q a w → K a w) → x.wp P (Exit.then K Q) a w) : wpN P (Code.seq x y) Q a w :=
  wpN_seq (wpN_of_wp (h _ fun _ _ h => h))
/-- The region of a select, then the rest. -/
theorem wpN_region_seq {id : Nat} {ops : Array Oper} {y : Code} (h : opsN P ops (Exit.then (wpN P y Q) Q) (List.range ops.size) a w) : wpN P (Code.seq (.region id ops false) y) Q a w :=
  wpN_seq fun b k cs hb => let ⟨e, a', w', q, r⟩ := h b k cs hb; ⟨e, a', w', q, .of_steps (.one step_region) r⟩

theorem calls_of_wpN {f : FuncId} {fn : Func} {c : Code} {args : Array Value} {R : Ending → World → Prop}
    (hf : P.funcs[f]? = some fn) (hb : fn.body = some c)
    (h : wpN P c (bodyPost P fn R) { tmps := args ++ Array.replicate (fn.ntmps - args.size) undef, defers := [] } w) :
    Calls P f args w R := by
  intro cs
  let b : Frame := { (default : Frame) with fn := f, kind := .normal }
  have henter : Frame.enter P f args .normal =
      b.at { tmps := args ++ Array.replicate (fn.ntmps - args.size) undef, defers := [] } [.code c] := by
    simp [Frame.enter, Frame.at, hf, hb, b]
  obtain ⟨e, a', w', hq, harr⟩ := h b [] cs rfl
  rw [← henter] at harr
  cases e with
  | normal =>
    obtain ⟨hd, v, hr, hR⟩ := hq
    exact ⟨.returned v, w', _, hR, Steps.trans harr (.one step_end), rfl, rfl, hd, rfl, fn, hf, hr⟩
  | ret =>
    obtain ⟨hd, v, hr, hR⟩ := hq
    obtain ⟨todo, hs⟩ := harr
    exact ⟨.returned v, w', _, hR, hs, rfl, rfl, hd, rfl, fn, hf, hr⟩
  | panic chain =>
    obtain ⟨hd, hR⟩ := hq
    obtain ⟨todo, hs⟩ := harr
    exact ⟨.panicked chain, w', _, hR, hs, rfl, rfl, hd, fn, hf⟩
  | exit id => exact hq.elim
  | goto l => exact hq.elim
  | outgrown => exact ⟨.outgrown, w', b, hq, harr.resolve_left (by simp [b]), rfl, trivial⟩


variable {ops : Array Oper} {i : Nat} {rest : List Nat} {o : Oper}
theorem opsN_nil (h : Q .normal a w) : opsN P ops Q [] a w := fun _ _ _ _ => ⟨.normal, a, w, h, .one step_region_end⟩

theorem opsN_value {v : Value} {w' : World} (ho : ops[i]? = some o) (hw : Region.wanted o (yielded ops a.tmps) = true)
    (hr : (execOp a.eval o).run P w = .ok (.value v) w') (h : opsN P ops Q rest (a.put o.dst v) w') : opsN P ops Q (i :: rest) a w := by
  intro b k cs hb
  obtain ⟨e, a', w'', hq, harr⟩ := h b k cs hb
  have hg := stepG_op (P := P) (b := b) (k := k) (cs := cs) (w := w) (rest := rest) ho hw
  have hfin : (b.at a (.inRegion ops (i :: rest) :: k)).finish v = b.at (a.put o.dst v) (.inRegion ops rest :: k) := by
    rw [Frame.finish_at, ho]; rfl
  refine ⟨e, a', w'', hq, .of_steps (.one (step_lone_go ?_)) harr⟩
  rw [hg, ← hfin]; simp [stepG.apply, hr]
theorem opsN_same {v : Value} (ho : ops[i]? = some o) (hw : Region.wanted o (yielded ops a.tmps) = true)
    (hr : (execOp a.eval o).run P w = .ok (.value v) w) (h : opsN P ops Q rest (a.put o.dst v) w) : opsN P ops Q (i :: rest) a w := opsN_value ho hw hr h
theorem opsN_skip {w' : World} (ho : ops[i]? = some o) (hw : Region.wanted o (yielded ops a.tmps) = true)
    (hr : (execOp a.eval o).run P w = .ok .skip w') (h : opsN P ops Q rest (a.put o.dst undef) w') : opsN P ops Q (i :: rest) a w := by
  intro b k cs hb
  obtain ⟨e, a', w'', hq, harr⟩ := h b k cs hb
  have hg := stepG_op (P := P) (b := b) (k := k) (cs := cs) (w := w) (rest := rest) ho hw
  have hfin : (b.at a (.inRegion ops (i :: rest) :: k)).finish undef = b.at (a.put o.dst undef) (.inRegion ops rest :: k) := by
    rw [Frame.finish_at, ho]; rfl
  refine ⟨e, a', w'', hq, .of_steps (.one (step_lone_go ?_)) harr⟩
  rw [hg, ← hfin]; simp [stepG.apply, hr]

/-- Any step of the machine's that hands this operation a value. -/
theorem opsN_step {v : Value} {w' : World} (ho : ops[i]? = some o)
    (hs : ∀ (b : Frame) (k : List Item) (cs : List Frame), b.kind = .normal →
      step P (solo (G (b.at a (.inRegion ops (i :: rest) :: k)) cs) w) = .next (solo (G ((b.at a (.inRegion ops (i :: rest) :: k)).finish v) cs) w'))
    (h : opsN P ops Q rest (a.put o.dst v) w') : opsN P ops Q (i :: rest) a w := by
  intro b k cs hb
  obtain ⟨e, a', w'', hq, harr⟩ := h b k cs hb
  have hfin : (b.at a (.inRegion ops (i :: rest) :: k)).finish v = b.at (a.put o.dst v) (.inRegion ops rest :: k) := by
    rw [Frame.finish_at, ho]; rfl
  have := hs b k cs hb
  rw [hfin] at this
  exact ⟨e, a', w'', hq, .of_steps (.one this) harr⟩

variable {c cap s r : Nat} {buf : Array Value} {closed tm : Bool} {v z : Value}
theorem res_s (k : Int) (x : Value) : commResult #[scase c x z] .select k undef false = .tuple #[goInt k, .bool false] := by
  simp [commResult, scase, List.zipIdx_cons]
theorem res_r0 (ok : Bool) : commResult #[rcase c z] .select ((0 : Nat) : Int) v ok = .tuple #[goInt 0, .bool ok, v] := by
  simp [commResult, rcase, List.zipIdx_cons]
theorem res_rd : commResult #[rcase c z] .select (-1) undef false = .tuple #[goInt (-1), .bool false, z] := by
  simp [commResult, rcase, List.zipIdx_cons]

/-- select { case c <- v: default: }: there is room. -/
theorem opsN_send_room (ho : ops[i]? = some o) (hw : Region.wanted o (yielded ops a.tmps) = true)
    (hr : (execOp a.eval o).run P w = .ok (.comm #[scase c v z] false .select) w)
    (hc : w.heap[c]? = some (.chan cap buf false s r tm)) (hroom : buf.size < cap)
    (h : opsN P ops Q rest (a.put o.dst (.tuple #[goInt 0, .bool false])) (w.setChan c cap (buf.push v) false (s + 1) r tm)) : opsN P ops Q (i :: rest) a w := by
  refine opsN_step ho (fun b k cs hb => ?_) h
  have := step_lone_sel_send_room (k := 0) (stepG_comm (main := true) (k := k) (cs := cs) (b := b) (rest := rest) ho hw (by rw [hb]; decide) hr) rfl
    (fun m c' hm hc' => by
      rcases m with _ | m
      · exact absurd rfl hm
      · simp at hc') hc hroom
  rw [res_s] at this
  exact this
/-- .. there is none. -/
theorem opsN_send_full (ho : ops[i]? = some o) (hw : Region.wanted o (yielded ops a.tmps) = true)
    (hr : (execOp a.eval o).run P w = .ok (.comm #[scase c v z] false .select) w)
    (hc : w.heap[c]? = some (.chan cap buf false s r tm)) (hfull : cap ≤ buf.size)
    (h : opsN P ops Q rest (a.put o.dst (.tuple #[goInt (-1), .bool false])) w) : opsN P ops Q (i :: rest) a w := by
  refine opsN_step ho (fun b k cs hb => ?_) h
  have := step_lone_sel_default (stepG_comm (main := true) (k := k) (cs := cs) (b := b) (rest := rest) ho hw (by rw [hb]; decide) hr)
    (fun cc hcc => by
      simp only [List.mem_toArray, List.mem_cons, List.not_mem_nil, or_false] at hcc
      subst hcc
      exact noWay_send hc hfull)
  rw [res_s] at this
  exact this
/-- select { case x, is := <-c: default: }: something lies there. -/
theorem opsN_recv_some (ho : ops[i]? = some o) (hw : Region.wanted o (yielded ops a.tmps) = true)
    (hr : (execOp a.eval o).run P w = .ok (.comm #[rcase c z] false .select) w)
    (hc : w.heap[c]? = some (.chan cap buf closed s r tm)) (hsome : 0 < buf.size)
    (h : opsN P ops Q rest (a.put o.dst (.tuple #[goInt 0, .bool true, buf.getD 0 undef])) (w.setChan c cap (buf.extract 1 buf.size) closed s (r + 1) tm)) : opsN P ops Q (i :: rest) a w := by
  refine opsN_step ho (fun b k cs hb => ?_) h
  have := step_lone_sel_recv_buf (k := 0) (stepG_comm (main := true) (k := k) (cs := cs) (b := b) (rest := rest) ho hw (by rw [hb]; decide) hr) rfl
    (fun m c' hm hc' => by
      rcases m with _ | m
      · exact absurd rfl hm
      · simp at hc') hc hsome
  rw [res_r0] at this
  exact this
/-- .. it is closed, and empty. -/
theorem opsN_recv_shut (ho : ops[i]? = some o) (hw : Region.wanted o (yielded ops a.tmps) = true)
    (hr : (execOp a.eval o).run P w = .ok (.comm #[rcase c z] false .select) w)
    (hc : w.heap[c]? = some (.chan cap #[] true s r tm))
    (h : opsN P ops Q rest (a.put o.dst (.tuple #[goInt 0, .bool false, z])) w) : opsN P ops Q (i :: rest) a w := by
  refine opsN_step ho (fun b k cs hb => ?_) h
  have := step_lone_sel_recv_shut (k := 0) (stepG_comm (main := true) (k := k) (cs := cs) (b := b) (rest := rest) ho hw (by rw [hb]; decide) hr) rfl
    (fun m c' hm hc' => by
      rcases m with _ | m
      · exact absurd rfl hm
      · simp at hc') hc
  rw [res_r0] at this
  exact this
/-- .. it is open, and empty. -/
theorem opsN_recv_none (ho : ops[i]? = some o) (hw : Region.wanted o (yielded ops a.tmps) = true)
    (hr : (execOp a.eval o).run P w = .ok (.comm #[rcase c z] false .select) w)
    (hc : w.heap[c]? = some (.chan cap #[] false s r tm))
    (h : opsN P ops Q rest (a.put o.dst (.tuple #[goInt (-1), .bool false, z])) w) : opsN P ops Q (i :: rest) a w := by
  refine opsN_step ho (fun b k cs hb => ?_) h
  have := step_lone_sel_default (stepG_comm (main := true) (k := k) (cs := cs) (b := b) (rest := rest) ho hw (by rw [hb]; decide) hr)
    (fun cc hcc => by
      simp only [List.mem_toArray, List.mem_cons, List.not_mem_nil, or_false] at hcc
      subst hcc
      exact noWay_recv hc)
  rw [res_rd] at this
  exact this
end
end Go.Proofs.Ytncapimnlgncpaa
