/- Maps: a range over one, in whatever order; made; cleared; the laws at the operations. -/
import Derived.Test.YthghhcnpbehaiaaGreatFa11
import Derived.Maps.RangeWalk
import Derived.Test.YthghhcnpbehaiaaGreatFa01

namespace Go.Proofs.YthghhcnpbehaiaaGreat
open Go.RowKit
open Go.Maps (Keyed)
open Go.ChangeMaps (setBlock)

theorem sb_same {w : World} {b : Nat} (hb : b < w.heap.size) (o : Obj) : (setBlock w b o).heap[b]? = some o := by
  simp [setBlock, hb]
theorem sb_other (w : World) {b i : Nat} (o : Obj) (h : i ≠ b) : (setBlock w b o).heap[i]? = w.heap[i]? := by
  simp [setBlock, Array.getElem?_setIfInBounds, Ne.symm h]

section
variable {α : Type} [DecidableEq α] {P : Program} {k : TypeId} {mk : α → Value} {ok : α → Prop} {w : World} {t e : TypeId} {b r : Nat} {l todo : List (α × Value)}

/-- Block r goes over the map of block b, which holds l; todo are those still to come. -/
def IterAt (w : World) (mk : α → Value) (b r : Nat) (l todo : List (α × Value)) : Prop :=
  ∃ es clock since seen c0, w.heap[b]? = some (.map es clock) ∧ (es.toList.map kv).Perm (l.map fun p => (mk p.1, p.2)) ∧ (∀ e ∈ es.toList, e.born < clock) ∧ (es.toList.map (·.born)).Nodup ∧ (l.map (·.1)).Nodup ∧
    w.heap[r]? = some (.mapIter (some b) since seen c0) ∧ (∀ x ∈ es.toList, x.born < since) ∧ since ≤ c0 ∧ since ≤ clock ∧ ((leftOf es seen).toList.map kv).Perm (todo.map fun p => (mk p.1, p.2))

omit [DecidableEq α] in
theorem IterAt.map (h : IterAt w mk b r l todo) : MapAt w mk b l := by
  obtain ⟨es, clock, since, seen, c0, h1, h2, h3, h4, h5, _⟩ := h
  exact ⟨es, clock, h1, h2, h3, h4, h5⟩
omit [DecidableEq α] in
theorem IterAt.lt (h : IterAt w mk b r l todo) : r < w.heap.size := by
  obtain ⟨es, clock, since, seen, c0, h1, h2, h3, h4, h5, h6, _⟩ := h
  exact heap_lt h6
omit [DecidableEq α] in
theorem IterAt.ne (h : IterAt w mk b r l todo) : r ≠ b := by
  obtain ⟨es, clock, since, seen, c0, h1, h2, h3, h4, h5, h6, _⟩ := h
  rintro rfl; rw [h1] at h6; cases h6
omit [DecidableEq α] in
theorem IterAt.of_heap {w' : World} (h : IterAt w mk b r l todo) (e : w'.heap[b]? = w.heap[b]?) (e2 : w'.heap[r]? = w.heap[r]?) : IterAt w' mk b r l todo := by
  obtain ⟨es, c, since, seen, c0, h1, h2, h3, h4, h5, h6, h7⟩ := h; exact ⟨es, c, since, seen, c0, e.trans h1, h2, h3, h4, h5, e2.trans h6, h7⟩
omit [DecidableEq α] in
theorem IterAt.below {w' : World} (h : IterAt w mk b r l todo) (hb : Below w.heap.size w w') : IterAt w' mk b r l todo := h.of_heap (hb.block _ h.map.lt) (hb.block _ h.lt)
omit [DecidableEq α] in
theorem IterAt.turns {M : Nat → Prop} {w' : World} (h : IterAt w mk b r l todo) (hb : Turns M w w') (hm : ¬ M b) (hm2 : ¬ M r) : IterAt w' mk b r l todo := h.of_heap (hb.block _ h.map.lt hm) (hb.block _ h.lt hm2)

omit [DecidableEq α] in
theorem MapAt.range (h : MapAt w mk b l) (ht : P.underlying t = some (.map k e)) :
    ∃ o, (Instr.range t (.map (some b))).run P w = .ok (.pointer (some ⟨w.heap.size, 0, none⟩)) (w.alloc o) ∧ IterAt (w.alloc o) mk b w.heap.size l l := by
  have hlt := h.lt
  obtain ⟨es, clock, h1, h2, h3, h4, h5⟩ := h
  refine ⟨_, run_range_map w t k e b es clock ht h1, es, clock, clock, #[], clock, ((MapKept.heap_alloc w _).2 b hlt).trans h1, h2, h3, h4, h5, (MapKept.heap_alloc w _).1, h3, Nat.le_refl _, Nat.le_refl _, ?_⟩
  have : leftOf es #[] = es := by simp [leftOf]
  rw [this]; exact h2

theorem left_push {es : Array MapEntry} {seen : Array Nat} {e0 : MapEntry} (he : e0 ∈ (leftOf es seen).toList) (hn : (es.toList.map (·.born)).Nodup) :
    (leftOf es seen).toList.Perm (e0 :: (leftOf es (seen.push e0.born)).toList) := by
  have hsub : ((leftOf es seen).toList.map (·.born)).Nodup := by
    have : (leftOf es seen).toList.Sublist es.toList := by simp only [leftOf, Array.toList_filter]; exact List.filter_sublist
    exact hn.sublist (this.map _)
  have e2 : (leftOf es (seen.push e0.born)).toList = (leftOf es seen).toList.filter (fun x => x.born != e0.born) := by
    simp only [leftOf, Array.toList_filter, List.filter_filter]
    apply List.filter_congr
    intro x _
    by_cases h : x.born = e0.born
    · simp [h]
    · simp [h, Ne.symm h]
  rw [e2]
  generalize (leftOf es seen).toList = L at he hsub
  obtain ⟨A, B, rfl⟩ := List.append_of_mem he
  rw [List.map_append, List.map_cons] at hsub
  obtain ⟨n1, n2, n3⟩ := List.nodup_append.1 hsub
  rw [List.nodup_cons] at n2
  have ea : A.filter (fun x => x.born != e0.born) = A := List.filter_eq_self.2 (fun x hx => by
    simp only [bne_iff_ne, ne_eq]
    intro h; exact n3 _ (List.mem_map.2 ⟨x, hx, rfl⟩) e0.born List.mem_cons_self h)
  have eb : B.filter (fun x => x.born != e0.born) = B := List.filter_eq_self.2 (fun x hx => by
    simp only [bne_iff_ne, ne_eq]
    intro h; exact n2.1 (List.mem_map.2 ⟨x, hx, h⟩))
  rw [List.filter_append, List.filter_cons, ea, eb]
  simp only [bne_self_eq_false, Bool.false_eq_true, if_false]
  exact List.perm_middle

omit [DecidableEq α] in
theorem IterAt.next (h : IterAt w mk b r l todo) (ty : TypeId) :
    (todo = [] ∧ (Instr.next (.pointer (some ⟨r, 0, none⟩)) false ty).run P w = .ok (.tuple #[.bool false]) w) ∨
    ∃ a v todo' w', todo.Perm ((a, v) :: todo') ∧ (Instr.next (.pointer (some ⟨r, 0, none⟩)) false ty).run P w = .ok (.tuple #[.bool true, mk a, v]) w' ∧ Turns (· = r) w w' ∧ w'.heap.size = w.heap.size ∧ w.drawn ≤ w'.drawn ∧
      (Instr.entry (.pointer (some ⟨r, 0, none⟩))).run P w' = .ok (.tuple #[mk a, v]) w' ∧ IterAt w' mk b r l todo' := by
  have hne := h.ne
  obtain ⟨es, clock, since, seen, c0, h1, h2, h3, h4, h5, h6, h7, h8, h9, h10⟩ := h
  rcases run_next_at (P := P) w ty r b since c0 seen es clock h6 h1 h7 h8 with ⟨hz, hrun⟩ | ⟨e0, he, w1, hw1, hrun⟩
  · refine .inl ⟨?_, hrun⟩
    have : (leftOf es seen).toList = [] := by rw [Array.toList_eq_nil_iff]; exact Array.eq_empty_of_size_eq_zero hz
    rw [this] at h10
    have := h10.length_eq
    simpa using this.symm
  · have hL := left_push he h4
    have hmem : kv e0 ∈ todo.map fun p => (mk p.1, p.2) := h10.mem_iff.1 (List.mem_map.2 ⟨e0, he, rfl⟩)
    obtain ⟨p, hp, ep⟩ := List.mem_map.1 hmem
    obtain ⟨A, B, rfl⟩ := List.append_of_mem hp
    simp only [kv, Prod.mk.injEq] at ep
    have hlt : r < w1.heap.size := by rcases hw1 with rfl | rfl <;> exact heap_lt h6
    have hb1 : w1.heap[b]? = some (.map es clock) := by rcases hw1 with rfl | rfl <;> exact h1
    have hr1 : w1.heap[r]? = some (.mapIter (some b) since seen c0) := by rcases hw1 with rfl | rfl <;> exact h6
    have hT : Turns (· = r) w (setBlock w1 r (.mapIter (some b) since (seen.push e0.born) clock)) := by
      have h0 : Turns (· = r) w w1 := by
        rcases hw1 with rfl | rfl
        · exact Turns.refl _ _
        · exact (Turns.refl _ _).drew
      exact ⟨h0.os, h0.tape, h0.output, by have := h0.size; simpa [setBlock] using this, fun q hq hm => by
        rw [sb_other _ _ hm]; exact h0.block q hq hm⟩
    have hb2 : (setBlock w1 r (.mapIter (some b) since (seen.push e0.born) clock)).heap[b]? = some (.map es clock) := by
      rw [sb_other _ _ (Ne.symm hne)]; exact hb1
    have hr2 := sb_same hlt (.mapIter (some b) since (seen.push e0.born) clock)
    have hes : e0 ∈ es.toList := by
      have : (leftOf es seen).toList.Sublist es.toList := by simp only [leftOf, Array.toList_filter]; exact List.filter_sublist
      exact this.subset he
    refine .inr ⟨p.1, p.2, A ++ B, _, List.perm_middle, ?_, hT, ?_, ?_, ?_, es, clock, since, _, clock, hb2, h2, h3, h4, h5, hr2, h7, by omega, h9, ?_⟩
    · rw [hrun, ep.1, ep.2]
    · rcases hw1 with rfl | rfl <;> simp [setBlock]
    · rcases hw1 with rfl | rfl <;> simp [setBlock, World.drewN]
    · rw [run_entry_at _ r b since seen es clock e0 hr2 hb2 hes h4, ep.1, ep.2]
    · have q1 := (hL.map kv).symm.trans h10
      rw [List.map_append, List.map_cons] at q1
      have q2 := q1.trans List.perm_middle
      have e1 : kv e0 = (mk p.1, p.2) := by simp [kv, ep.1, ep.2]
      rw [e1] at q2
      rw [List.map_append]
      exact List.Perm.cons_inv q2
end

section
variable {α : Type} [DecidableEq α] {P : Program} {k : TypeId} {mk : α → Value} {ok : α → Prop} {w : World} {t e : TypeId} {b r : Nat} {l todo : List (α × Value)} {ops : Array Oper} {rest : List Oper} {o : Oper} {a : Act} {Q : Exit → Act → World → Prop}

omit [DecidableEq α] in
/-- range, at the operation. -/
theorem wpl_range (hg : o.guard = none) (m : Operand) (t : TypeId) (hop : o.op = Op.range t m) (hm : a.eval m = .map (some b)) (h : MapAt w mk b l) (ht : P.underlying t = some (.map k e))
    (hK : ∀ ob, IterAt (w.alloc ob) mk b w.heap.size l l → wpList P ops Q rest (a.put o.dst (.pointer (some ⟨w.heap.size, 0, none⟩))) (w.alloc ob)) : wpList P ops Q (o :: rest) a w := by
  refine wpList_plain hg fun K' hK' => ?_
  obtain ⟨ob, hrun, r1⟩ := h.range (P := P) ht
  unfold Oper.wp
  simp [execOp, hop, hm, hrun, Result.andThen]
  exact hK' _ _ (hK ob r1)

omit [DecidableEq α] in
/-- the step, at the operation. -/
theorem wpl_next (hg : o.guard = none) (it : Operand) (hop : o.op = Op.next it false) (hit : a.eval it = .pointer (some ⟨r, 0, none⟩)) (h : IterAt w mk b r l todo)
    (hDone : todo = [] → wpList P ops Q rest (a.put o.dst (.tuple #[.bool false])) w)
    (hMore : ∀ x v todo' w', todo.Perm ((x, v) :: todo') → Turns (· = r) w w' → w'.heap.size = w.heap.size → w.drawn ≤ w'.drawn → (Instr.entry (.pointer (some ⟨r, 0, none⟩))).run P w' = .ok (.tuple #[mk x, v]) w' → IterAt w' mk b r l todo' →
      wpList P ops Q rest (a.put o.dst (.tuple #[.bool true, mk x, v])) w') : wpList P ops Q (o :: rest) a w := by
  refine wpList_plain hg fun K' hK' => ?_
  unfold Oper.wp
  rcases h.next (P := P) o.type with ⟨h0, hrun⟩ | ⟨x, v, todo', w', h1, hrun, h2, h3, h3', h4, h5⟩
  · simp [execOp, hop, hit, hrun, Result.andThen]
    exact hK' _ _ (hDone h0)
  · simp [execOp, hop, hit, hrun, Result.andThen]
    exact hK' _ _ (hMore x v todo' w' h1 h2 h3 h3' h4 h5)

/-- m[k] = v, at the operation. -/
theorem wpl_update (hg : o.guard = none) (m x v : Operand) (t : TypeId) (hop : o.op = Op.mapUpdate t m x v) (hm : a.eval m = .map (some b)) (h : MapAt w mk b l) (K : Keys P k mk ok) (hok : ∀ p ∈ l, ok p.1)
    (ht : P.underlying t = some (.map k e)) (y : α) (hx : a.eval x = mk y) (hy : ok y) (u : Value) (hv : a.eval v = u)
    (hK : ∀ w', MapAt w' mk b (upd l y u) → Turns (· = b) w w' → w'.heap.size = w.heap.size → wpList P ops Q rest (a.put o.dst undef) w') : wpList P ops Q (o :: rest) a w := by
  refine wpList_plain hg fun K' hK' => ?_
  obtain ⟨ob, hrun, r1⟩ := h.update K hok ht y hy u
  unfold Oper.wp
  simp [execOp, hop, hm, hx, hv, hrun, Result.andThen]
  refine hK' _ _ (hK _ r1 ⟨rfl, rfl, rfl, by simp [setBlock], fun q _ hq => sb_other _ _ hq⟩ (by simp [setBlock]))
end
end Go.Proofs.YthghhcnpbehaiaaGreat

/- Maps: the kinds of keys that this program's maps have. -/
namespace Go.Proofs.YthghhcnpbehaiaaGreat
open Go.RowKit
open Go.Maps (Keyed)

def ok64 (n : Int) : Prop := -9223372036854775808 ≤ n ∧ n ≤ 9223372036854775807
theorem wf64 {n : Int} (h : ok64 n) : (Lit.int .i64 n).wf = true := by
  obtain ⟨h1, h2⟩ := h
  simp only [Lit.wf]
  rw [Bool.and_eq_true]
  exact ⟨decide_eq_true (show IntKind.i64.min ≤ n from h1), decide_eq_true (show n ≤ IntKind.i64.max from h2)⟩

theorem keysI : Keys Tryz.prog 3 i64 ok64 where
  law := Go.Maps.int_keyed Tryz.underlying3
  key a ha := ⟨_, Go.Maps.keyOf_int_mk Tryz.underlying3 (wf64 ha)⟩
  inj a b h := by injection h

theorem laidOutT : laidOutB Tryz.prog = true := by kernel_rfl
theorem row75T : (75 : TypeId) < Tryz.prog.types.size := of_decide_eq_true (by kernel_rfl)
theorem cells75 : Tryz.prog.cellsOf 75 = 2 := by kernel_rfl
theorem cells3 : Tryz.prog.cellsOf 3 = 1 := by kernel_rfl
theorem kt75 : Tryz.prog.keyType 75 = true := by kernel_rfl
theorem tsz : ∃ m, Tryz.prog.types.size = m + 2 := ⟨Tryz.prog.types.size - 2, by have h : (75 : Nat) < Tryz.prog.types.size := row75T; omega⟩
theorem kta75 : Tryz.prog.keyTypeAt 2 75 = true := by kernel_rfl

theorem keysP : Keys Tryz.prog 75 Plc.v (fun p => ok64 p.b ∧ ok64 p.p) where
  law := Keyed.of_law (deep_law_laid laidOutT (m := 2) (by omega) row75T kta75 (by rw [Tryz.underlying75]))
  key p hp := by
    obtain ⟨m, hm⟩ := tsz
    refine ⟨.string (keyBytes [.int .i64 p.b, .int .i64 p.p]), ?_⟩
    simp only [keyOf, Tryz.underlying75]
    have hf : (Plc.v p).formed Tryz.prog 75 = true := by simp [Value.formed, Tryz.underlying75, cells75]
    rw [kt75, hf, hm]
    simp [Program.keyLits, Tryz.underlying75, Tryz.underlying3, cells75, cells3, Value.cells, wf64 hp.1, wf64 hp.2]
  inj a b h := by
    simp only [Value.agg.injEq, Array.mk.injEq, List.cons.injEq, Value.int.injEq, and_true, true_and] at h
    cases a; cases b; simp at h; simp [h.1, h.2]
end Go.Proofs.YthghhcnpbehaiaaGreat

/- Maps as functions; the look-up at the operation. -/
namespace Go.Proofs.YthghhcnpbehaiaaGreat
open Go.RowKit
open Go.Maps (Keyed)
open Go.ChangeMaps (setBlock)

section
variable {α : Type} [DecidableEq α] {P : Program} {k : TypeId} {mk : α → Value} {ok : α → Prop} {w : World} {t e : TypeId} {b r : Nat} {l todo : List (α × Value)} {ops : Array Oper} {rest : List Oper} {o : Oper} {a : Act} {Q : Exit → Act → World → Prop}

omit [DecidableEq α] in
theorem find_congr' {p q : α → Bool} : ∀ {l : List α}, (∀ x ∈ l, p x = q x) → l.find? p = l.find? q
  | [], _ => rfl
  | x :: r, h => by
    rw [List.find?_cons, List.find?_cons, h x List.mem_cons_self, find_congr' (fun y hy => h y (List.mem_cons_of_mem _ hy))]
def fput {β : Type} (f : α → Option β) (a : α) (v : Option β) : α → Option β := fun x => if x = a then v else f x
theorem fput_self {β : Type} (f : α → Option β) (a : α) (v : Option β) : fput f a v a = v := by simp [fput]
theorem fput_ne {β : Type} (f : α → Option β) {a x : α} (h : x ≠ a) (v : Option β) : fput f a v x = f x := by simp [fput, h]

theorem look_upd (l : List (α × Value)) (a : α) (v : Value) : look (upd l a v) = fput (look l) a (some v) := by
  funext x
  by_cases h : x = a
  · subst h; simp [look, upd, fput]
  · rw [fput_ne _ h]
    simp only [look, upd, wo, List.find?_cons]
    have h1 : ¬ a = x := fun e => h e.symm
    simp only [h1, decide_false, List.find?_filter]
    congr 1
    apply find_congr'
    intro p _
    by_cases hp : p.1 = x
    · simp [hp, h]
    · simp [hp]

theorem look_wo (l : List (α × Value)) (a : α) : look (wo l a) = fput (look l) a none := by
  funext x
  by_cases h : x = a
  · subst h
    rw [fput_self]
    exact look_none fun p hp => by have := (List.mem_filter.1 hp).2; simpa using this
  · rw [fput_ne _ h]
    simp only [look, wo, List.find?_filter]
    congr 1
    apply find_congr'
    intro p _
    by_cases hp : p.1 = x
    · simp [hp, h]
    · simp [hp]

/-- Block b is a map that is f. -/
def MapF (w : World) (mk : α → Value) (ok : α → Prop) (b : Nat) (f : α → Option Value) : Prop := ∃ l, MapAt w mk b l ∧ look l = f ∧ ∀ p ∈ l, ok p.1

theorem MapF.of_heap {w' : World} {f : α → Option Value} (h : MapF w mk ok b f) (e : w'.heap[b]? = w.heap[b]?) : MapF w' mk ok b f := by
  obtain ⟨l, h1, h2⟩ := h; exact ⟨l, h1.of_heap e, h2⟩
theorem MapF.lt {f : α → Option Value} (h : MapF w mk ok b f) : b < w.heap.size := by obtain ⟨l, h1, h2⟩ := h; exact h1.lt
theorem MapF.below {w' : World} {f : α → Option Value} (h : MapF w mk ok b f) (hb : Below w.heap.size w w') : MapF w' mk ok b f := h.of_heap (hb.block _ h.lt)
theorem MapF.turns {M : Nat → Prop} {w' : World} {f : α → Option Value} (h : MapF w mk ok b f) (hb : Turns M w w') (hm : ¬ M b) : MapF w' mk ok b f := h.of_heap (hb.block _ h.lt hm)
theorem MapF.new (w : World) (mk : α → Value) (ok : α → Prop) : MapF (w.alloc (.map #[] 0)) mk ok w.heap.size (fun _ => none) := ⟨[], MapAt.new w mk, rfl, by simp⟩

theorem MapF.lookup_ok {f : α → Option Value} (h : MapF w mk ok b f) (K : Keys P k mk ok) (ht : P.underlying t = some (.map k e)) {z : Value} (hz : ∀ w, (zeroValue e).run P w = .ok z w) (y : α) (hy : ok y) :
    (Instr.lookup t (.map (some b)) (mk y) true).run P w = .ok (.tuple #[(f y).getD z, .bool (f y).isSome]) w := by
  obtain ⟨l, h1, rfl, h3⟩ := h; exact h1.lookup_ok K h3 ht (hz w) y hy
theorem MapF.lookup1 {f : α → Option Value} (h : MapF w mk ok b f) (K : Keys P k mk ok) (ht : P.underlying t = some (.map k e)) {z : Value} (hz : ∀ w, (zeroValue e).run P w = .ok z w) (y : α) (hy : ok y) :
    (Instr.lookup t (.map (some b)) (mk y) false).run P w = .ok ((f y).getD z) w := by
  obtain ⟨l, h1, rfl, h3⟩ := h; exact h1.lookup1 K h3 ht (hz w) y hy

/-- v, ok := m[k]: it is there. -/
theorem wpl_look_some {w0 : World} {f : α → Option Value} (h0 : MapF w0 mk ok b f) (K : Keys P k mk ok) (ht : P.underlying t = some (.map k e)) {z : Value} (hz : ∀ w, (zeroValue e).run P w = .ok z w) (y : α) (hy : ok y) {u : Value} (hu : f y = some u)
    (hb : Below w0.heap.size w0 w) (hg : o.guard = none) (m x : Operand) (hop : o.op = Op.lookup t m x true) (hm : a.eval m = .map (some b)) (hx : a.eval x = mk y)
    (hK : wpList P ops Q rest (a.put o.dst (.tuple #[u, .bool true])) w) : wpList P ops Q (o :: rest) a w := by
  have h := h0.below hb
  refine wpList_plain hg fun K' hK' => ?_
  have hrun := h.lookup_ok K ht hz y hy
  rw [hu] at hrun
  unfold Oper.wp
  simp [execOp, hop, hm, hx, hrun, Result.andThen]
  exact hK' _ _ hK
/-- v, ok := m[k]: it is not there. -/
theorem wpl_look_none {w0 : World} {f : α → Option Value} (h0 : MapF w0 mk ok b f) (K : Keys P k mk ok) (ht : P.underlying t = some (.map k e)) {z : Value} (hz : ∀ w, (zeroValue e).run P w = .ok z w) (y : α) (hy : ok y) (hu : f y = none)
    (hb : Below w0.heap.size w0 w) (hg : o.guard = none) (m x : Operand) (hop : o.op = Op.lookup t m x true) (hm : a.eval m = .map (some b)) (hx : a.eval x = mk y)
    (hK : wpList P ops Q rest (a.put o.dst (.tuple #[z, .bool false])) w) : wpList P ops Q (o :: rest) a w := by
  have h := h0.below hb
  refine wpList_plain hg fun K' hK' => ?_
  have hrun := h.lookup_ok K ht hz y hy
  rw [hu] at hrun
  unfold Oper.wp
  simp [execOp, hop, hm, hx, hrun, Result.andThen]
  exact hK' _ _ hK
/-- m[k], without ok. -/
theorem wpl_look1 {w0 : World} {f : α → Option Value} (h0 : MapF w0 mk ok b f) (K : Keys P k mk ok) (ht : P.underlying t = some (.map k e)) {z : Value} (hz : ∀ w, (zeroValue e).run P w = .ok z w) (y : α) (hy : ok y) {u : Value} (hu : (f y).getD z = u)
    (hb : Below w0.heap.size w0 w) (hg : o.guard = none) (m x : Operand) (hop : o.op = Op.lookup t m x false) (hm : a.eval m = .map (some b)) (hx : a.eval x = mk y)
    (hK : wpList P ops Q rest (a.put o.dst u) w) : wpList P ops Q (o :: rest) a w := by
  have h := h0.below hb
  refine wpList_plain hg fun K' hK' => ?_
  have hrun := h.lookup1 K ht hz y hy
  rw [hu] at hrun
  unfold Oper.wp
  simp [execOp, hop, hm, hx, hrun, Result.andThen]
  exact hK' _ _ hK
/-- m[k] = v. -/
theorem wpl_put {w0 : World} {f : α → Option Value} (h0 : MapF w0 mk ok b f) (K : Keys P k mk ok) (ht : P.underlying t = some (.map k e)) (y : α) (hy : ok y) (u : Value)
    (hb : Below w0.heap.size w0 w) (hg : o.guard = none) (m x v : Operand) (hop : o.op = Op.mapUpdate t m x v) (hm : a.eval m = .map (some b)) (hx : a.eval x = mk y) (hv : a.eval v = u)
    (hK : ∀ w', MapF w' mk ok b (fput f y (some u)) → Turns (· = b) w w' → w'.heap.size = w.heap.size → wpList P ops Q rest (a.put o.dst undef) w') : wpList P ops Q (o :: rest) a w := by
  obtain ⟨l, h1, rfl, h3⟩ := h0.below hb
  refine wpl_update hg m x v t hop hm h1 K h3 ht y hx hy u hv fun w' h2 h4 h5 => hK w' ⟨_, h2, look_upd l y u, fun p hp => ?_⟩ h4 h5
  rcases List.mem_cons.1 hp with rfl | hp
  · exact hy
  · exact h3 p (List.mem_filter.1 hp).1
end
end Go.Proofs.YthghhcnpbehaiaaGreat
