/- Maps: delete, clear. -/
import Derived.Test.YthghhcnpbehaiaaGreatFa12

namespace Go.Proofs.YthghhcnpbehaiaaGreat
open Go.RowKit
open Go.Maps (Keyed)
open Go.ChangeMaps (setBlock)

section
variable {α : Type} [DecidableEq α] {P : Program} {k : TypeId} {mk : α → Value} {ok : α → Prop} {w : World} {t e : TypeId} {b r : Nat} {l todo : List (α × Value)} {ops : Array Oper} {rest : List Oper} {o : Oper} {a : Act} {Q : Exit → Act → World → Prop}

theorem MapAt.drop (h : MapAt w mk b l) (K : Keys P k mk ok) (hok : ∀ p ∈ l, ok p.1) (ht : P.underlying t = some (.map k e)) (ty : TypeId) (y : α) (hy : ok y) :
    ∃ ob, (Builtin.delete_ #[t, k] ty #[.map (some b), mk y]).run P w = .ok (.tuple #[]) (setBlock w b ob) ∧ MapAt (setBlock w b ob) mk b (wo l y) := by
  have hlt := h.lt
  obtain ⟨kl, hkl⟩ := K.key y hy
  obtain ⟨es, clock, h1, h2, h3, h4, h5, ⟨f1, f2, f3⟩ | ⟨A, e0, B, hsp, f1, h0, f2, hne⟩⟩ := h.found K hok y hy
  · refine ⟨.map es clock, ?_, es, clock, sb_same hlt _, ?_, h3, h4, wo_nodup h5⟩
    · simp [Builtin.delete_, run_underlying ht, MapKept.run_getObj_map h1, K.law.check w _ hkl, f1, MapKept.run_setObj_map _ h1, Result.andThen, setBlock]
    · rw [wo_none f2]; exact h2
  · have hnew : (es.eraseIdxIfInBounds A.length).toList = A ++ B := by
      rw [Array.toList_eraseIdxIfInBounds, hsp]
      simp [List.eraseIdx_append_of_length_le]
    refine ⟨.map (es.eraseIdxIfInBounds A.length) clock, ?_, _, clock, sb_same hlt _, ?_, ?_, ?_, wo_nodup h5⟩
    · simp [Builtin.delete_, run_underlying ht, MapKept.run_getObj_map h1, K.law.check w _ hkl, f1, MapKept.run_setObj_map _ h1, Result.andThen, setBlock]
    · rw [hnew]
      rw [hsp] at h2
      exact wo_perm K.inj h2 h0 hne
    · intro x hx
      rw [hnew] at hx
      refine h3 x ?_
      rw [hsp]
      rcases List.mem_append.1 hx with hx | hx
      · exact List.mem_append_left _ hx
      · exact List.mem_append_right _ (List.mem_cons_of_mem _ hx)
    · rw [hnew]
      rw [hsp] at h4
      refine h4.sublist ?_
      rw [List.map_append, List.map_append, List.map_cons]
      exact List.Sublist.append_left (List.sublist_cons_self _ _) _

/-- delete(m, k). -/
theorem wpl_del {w0 : World} {f : α → Option Value} (h0 : MapF w0 mk ok b f) (K : Keys P k mk ok) (ht : P.underlying t = some (.map k e)) (y : α) (hy : ok y)
    (hb : Below w0.heap.size w0 w) (hg : o.guard = none) (m x : Operand) (hop : o.op = Op.call { callee := Callee.builtin Builtin.delete, args := #[m, x], argTypes := #[t, k] }) (hm : a.eval m = .map (some b)) (hx : a.eval x = mk y)
    (hK : ∀ w', MapF w' mk ok b (fput f y none) → Turns (· = b) w w' → w'.heap.size = w.heap.size → wpList P ops Q rest (a.put o.dst (.tuple #[])) w') : wpList P ops Q (o :: rest) a w := by
  obtain ⟨l, h1, rfl, h3⟩ := h0.below hb
  refine wpList_plain hg fun K' hK' => ?_
  obtain ⟨ob, hrun, r1⟩ := h1.drop K h3 ht o.type y hy
  unfold Oper.wp
  simp [execOp, hop, resolve, invoke, builtin, hm, hx, hrun, Result.andThen]
  exact hK' _ _ (hK _ ⟨_, r1, look_wo l y, fun p hp => h3 p (List.mem_filter.1 hp).1⟩ ⟨rfl, rfl, rfl, by simp [setBlock], fun q _ hq => sb_other _ _ hq⟩ (by simp [setBlock]))

omit [DecidableEq α] in
/-- clear(m). -/
theorem wpl_clear (h : MapAt w mk b l) (ht : P.underlying t = some (.map k e))
    (hg : o.guard = none) (m : Operand) (hop : o.op = Op.call { callee := Callee.builtin Builtin.clear, args := #[m], argTypes := #[t] }) (hm : a.eval m = .map (some b))
    (hK : ∀ w', MapAt w' mk b [] → Turns (· = b) w w' → w'.heap.size = w.heap.size → wpList P ops Q rest (a.put o.dst (.tuple #[])) w') : wpList P ops Q (o :: rest) a w := by
  have hlt := h.lt
  obtain ⟨es, clock, h1, h2⟩ := h
  refine wpList_plain hg fun K' hK' => ?_
  have hrun : (Builtin.clear_ #[t] o.type #[.map (some b)]).run P w = .ok (.tuple #[]) (setBlock w b (.map #[] clock)) := by
    simp [Builtin.clear_, run_underlying ht, MapKept.run_getObj_map h1, MapKept.run_setObj_map _ h1, Result.andThen, setBlock]
  unfold Oper.wp
  simp [execOp, hop, resolve, invoke, builtin, hm, hrun, Result.andThen]
  exact hK' _ _ (hK _ ⟨#[], clock, sb_same hlt _, by simp, by simp, by simp, by simp⟩ ⟨rfl, rfl, rfl, by simp [setBlock], fun q _ hq => sb_other _ _ hq⟩ (by simp [setBlock]))
end
end Go.Proofs.YthghhcnpbehaiaaGreat
