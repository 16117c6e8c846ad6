/- Maps as lists of entries, in whatever order. -/
import Derived.Test.YthghhcnpbehaiaaGreatFa01
import Derived.Maps.Own
import Derived.Maps.OwnOps
import Derived.DeepKeys4

namespace Go.Proofs.YthghhcnpbehaiaaGreat
open Go.RowKit
open Go.Maps (Keyed)
open Go.ChangeMaps (setBlock)

section
variable {α : Type} [DecidableEq α] {P : Program} {k : TypeId} {mk : α → Value}

def kv (e : MapEntry) : Value × Value := (e.key, e.val)

/-- Block b is a map that holds just the entries l; keys are of the kind k, made by mk. -/
def MapAt (w : World) (mk : α → Value) (b : Nat) (l : List (α × Value)) : Prop :=
  ∃ es clock, w.heap[b]? = some (.map es clock) ∧ (es.toList.map kv).Perm (l.map fun p => (mk p.1, p.2)) ∧ (∀ e ∈ es.toList, e.born < clock) ∧ (es.toList.map (·.born)).Nodup ∧ (l.map (·.1)).Nodup

/-- Keys that may be. -/
structure Keys (P : Program) (k : TypeId) (mk : α → Value) (ok : α → Prop) : Prop where
  law : Keyed P k
  key : ∀ a, ok a → ∃ l, keyOf P k (mk a) = some l
  inj : ∀ a b, mk a = mk b → a = b

omit [DecidableEq α] in
theorem MapAt.of_heap {w w' : World} {b : Nat} {l : List (α × Value)} (h : MapAt w mk b l) (e : w'.heap[b]? = w.heap[b]?) : MapAt w' mk b l := by
  obtain ⟨es, c, h1, h2⟩ := h; exact ⟨es, c, e.trans h1, h2⟩
omit [DecidableEq α] in
theorem MapAt.lt {w : World} {b : Nat} {l : List (α × Value)} (h : MapAt w mk b l) : b < w.heap.size := by
  obtain ⟨es, c, h1, _⟩ := h; exact heap_lt h1
omit [DecidableEq α] in
theorem MapAt.below {w w' : World} {b : Nat} {l : List (α × Value)} (h : MapAt w mk b l) (hb : Below w.heap.size w w') : MapAt w' mk b l := h.of_heap (hb.block _ h.lt)
omit [DecidableEq α] in
theorem MapAt.turns {M : Nat → Prop} {w w' : World} {b : Nat} {l : List (α × Value)} (h : MapAt w mk b l) (hb : Turns M w w') (hm : ¬ M b) : MapAt w' mk b l := h.of_heap (hb.block _ h.lt hm)
omit [DecidableEq α] in
theorem MapAt.new (w : World) (mk : α → Value) : MapAt (w.alloc (.map #[] 0)) mk w.heap.size [] :=
  ⟨#[], 0, by show (w.heap.push _)[w.heap.size]? = _; simp, by simp, by simp, by simp, by simp⟩
omit [DecidableEq α] in
theorem MapAt.perm {w : World} {b : Nat} {l l' : List (α × Value)} (h : MapAt w mk b l) (hp : l.Perm l') : MapAt w mk b l' := by
  obtain ⟨es, c, h1, h2, h3, h4, h5⟩ := h
  exact ⟨es, c, h1, h2.trans (hp.map _), h3, h4, (hp.map _).nodup_iff.1 h5⟩

/-- What stands under a key. -/
def look (l : List (α × Value)) (a : α) : Option Value := (l.find? fun p => p.1 = a).map (·.2)

theorem look_mem {l : List (α × Value)} {a : α} {v : Value} (hn : (l.map (·.1)).Nodup) (h : (a, v) ∈ l) : look l a = some v := by
  induction l with
  | nil => cases h
  | cons p l ih =>
    simp only [List.map_cons, List.nodup_cons] at hn
    rw [look, List.find?_cons]
    rcases List.mem_cons.1 h with rfl | h
    · simp
    · have : p.1 ≠ a := fun e => hn.1 (by rw [e]; exact List.mem_map.2 ⟨_, h, rfl⟩)
      simp [this]
      exact ih hn.2 h |> fun h => by simpa [look] using h
theorem look_none {l : List (α × Value)} {a : α} (h : ∀ p ∈ l, p.1 ≠ a) : look l a = none := by
  rw [look, List.find?_eq_none.2 (fun p hp => by simpa using h p hp)]; rfl
theorem look_some {l : List (α × Value)} {a : α} {v : Value} (h : look l a = some v) : (a, v) ∈ l := by
  rw [look] at h
  cases hf : l.find? (fun p => p.1 = a) with
  | none => rw [hf] at h; cases h
  | some p =>
    rw [hf] at h
    have h1 := List.mem_of_find?_eq_some hf
    have h2 := List.find?_some hf
    simp at h h2
    rw [← h, ← h2]; exact h1

variable {ok : α → Prop} {w : World} {t e : TypeId} {b : Nat} {l : List (α × Value)}

theorem MapAt.found (h : MapAt w mk b l) (K : Keys P k mk ok) (hok : ∀ p ∈ l, ok p.1) (a : α) (ha : ok a) :
    ∃ es clock, w.heap[b]? = some (.map es clock) ∧ (es.toList.map kv).Perm (l.map fun p => (mk p.1, p.2)) ∧ (∀ e ∈ es.toList, e.born < clock) ∧ (es.toList.map (·.born)).Nodup ∧ (l.map (·.1)).Nodup ∧
      (((Instr.findKey k (mk a) es.toList).run P w = .ok none w ∧ look l a = none ∧ ∀ x ∈ es.toList, x.key ≠ mk a) ∨
        ∃ A e0 B, es.toList = A ++ e0 :: B ∧ (Instr.findKey k (mk a) es.toList).run P w = .ok (some (A.length, e0.val)) w ∧ e0.key = mk a ∧ look l a = some e0.val ∧ ∀ x ∈ A ++ B, x.key ≠ mk a) := by
  obtain ⟨es, clock, h1, h2, h3, h4, h5⟩ := h
  refine ⟨es, clock, h1, h2, h3, h4, h5, ?_⟩
  obtain ⟨kl, hkl⟩ := K.key a ha
  have hkeys : ∀ x ∈ es.toList, ∃ p ∈ l, x.key = mk p.1 ∧ x.val = p.2 := fun x hx => by
    have : kv x ∈ l.map fun p => (mk p.1, p.2) := h2.mem_iff.1 (List.mem_map.2 ⟨x, hx, rfl⟩)
    obtain ⟨p, hp, e⟩ := List.mem_map.1 this
    simp only [kv, Prod.mk.injEq] at e
    exact ⟨p, hp, e.1.symm, e.2.symm⟩
  have hread : ∀ x ∈ es.toList, ∃ l, keyOf P k x.key = some l := fun x hx => by
    obtain ⟨p, hp, e1, _⟩ := hkeys x hx
    rw [e1]; exact K.key p.1 (hok p hp)
  have hnd : (es.toList.map (·.key)).Nodup := by
    have e1 : es.toList.map (·.key) = (es.toList.map kv).map (·.1) := by rw [List.map_map]; rfl
    rw [e1, (h2.map (·.1)).nodup_iff, List.map_map]
    have e2 : ((fun x : Value × Value => x.1) ∘ fun p : α × Value => (mk p.1, p.2)) = mk ∘ (·.1) := rfl
    rw [e2, ← List.map_map]
    exact List.pairwise_map.2 (h5.imp (fun hne he => hne (K.inj _ _ he)))
  rcases K.law.find w hkl es.toList hread with ⟨f1, f2⟩ | ⟨j, e0, f1, f2, f3⟩
  · refine .inl ⟨f1, look_none fun p hp he => ?_, f2⟩
    have : (mk p.1, p.2) ∈ es.toList.map kv := h2.mem_iff.2 (List.mem_map.2 ⟨p, hp, rfl⟩)
    obtain ⟨x, hx, e⟩ := List.mem_map.1 this
    simp only [kv, Prod.mk.injEq] at e
    exact f2 x hx (by rw [e.1, he])
  · have hjl := (List.getElem?_eq_some_iff.1 f2).1
    have hsp : es.toList = es.toList.take j ++ e0 :: es.toList.drop (j + 1) := by
      have := (List.getElem?_eq_some_iff.1 f2).2
      rw [← this, List.getElem_cons_drop, List.take_append_drop]
    refine .inr ⟨es.toList.take j, e0, es.toList.drop (j + 1), hsp, ?_, f3, ?_, ?_⟩
    · rw [f1, List.length_take, Nat.min_eq_left (by omega)]
    · obtain ⟨p, hp, e1, e2⟩ := hkeys e0 (List.mem_of_getElem? f2)
      have : p.1 = a := K.inj _ _ (by rw [← e1, f3])
      rw [e2]
      exact look_mem h5 (by rw [← this]; exact hp)
    · intro x hx he
      rw [hsp, List.map_append, List.map_cons] at hnd
      have hx' : x.key ∈ (es.toList.take j).map (·.key) ++ (es.toList.drop (j + 1)).map (·.key) := by
        rw [← List.map_append]; exact List.mem_map.2 ⟨x, hx, rfl⟩
      obtain ⟨_, n2, n3⟩ := List.nodup_append.1 hnd
      rw [List.nodup_cons] at n2
      rcases List.mem_append.1 hx' with hx' | hx'
      · exact n3 _ hx' e0.key List.mem_cons_self (by rw [he, f3])
      · exact n2.1 (by rw [f3, ← he]; exact hx')
end
end Go.Proofs.YthghhcnpbehaiaaGreat

/- Maps: what each operation does. -/
namespace Go.Proofs.YthghhcnpbehaiaaGreat
open Go.RowKit
open Go.Maps (Keyed)
open Go.ChangeMaps (setBlock)

section
variable {α : Type} [DecidableEq α] {P : Program} {k : TypeId} {mk : α → Value} {ok : α → Prop} {w : World} {t e : TypeId} {b : Nat} {l : List (α × Value)}

theorem MapAt.lookup_ok (h : MapAt w mk b l) (K : Keys P k mk ok) (hok : ∀ p ∈ l, ok p.1) (ht : P.underlying t = some (.map k e)) {z : Value} (hz : (zeroValue e).run P w = .ok z w) (a : α) (ha : ok a) :
    (Instr.lookup t (.map (some b)) (mk a) true).run P w = .ok (.tuple #[(look l a).getD z, .bool (look l a).isSome]) w := by
  obtain ⟨kl, hkl⟩ := K.key a ha
  obtain ⟨es, clock, h1, _, _, _, _, ⟨f1, f2, _⟩ | ⟨A, e0, B, _, f1, _, f2, _⟩⟩ := h.found K hok a ha
  · simp [Instr.lookup, run_underlying ht, MapKept.run_getObj_map h1, K.law.check w _ hkl, f1, hz, Result.andThen, f2]
  · simp [Instr.lookup, run_underlying ht, MapKept.run_getObj_map h1, K.law.check w _ hkl, f1, Result.andThen, f2]

theorem MapAt.lookup1 (h : MapAt w mk b l) (K : Keys P k mk ok) (hok : ∀ p ∈ l, ok p.1) (ht : P.underlying t = some (.map k e)) {z : Value} (hz : (zeroValue e).run P w = .ok z w) (a : α) (ha : ok a) :
    (Instr.lookup t (.map (some b)) (mk a) false).run P w = .ok ((look l a).getD z) w := by
  obtain ⟨kl, hkl⟩ := K.key a ha
  obtain ⟨es, clock, h1, _, _, _, _, ⟨f1, f2, _⟩ | ⟨A, e0, B, _, f1, _, f2, _⟩⟩ := h.found K hok a ha
  · simp [Instr.lookup, run_underlying ht, MapKept.run_getObj_map h1, K.law.check w _ hkl, f1, hz, Result.andThen, f2]
  · simp [Instr.lookup, run_underlying ht, MapKept.run_getObj_map h1, K.law.check w _ hkl, f1, Result.andThen, f2]

theorem modify_mid {β : Type} (f : β → β) (x : β) (B : List β) : ∀ A : List β, (A ++ x :: B).modify A.length f = A ++ f x :: B
  | [] => rfl
  | y :: A => by
    have := modify_mid f x B A
    simp only [List.cons_append, List.length_cons, List.modify_succ_cons]
    rw [this]

/-- Without a key. -/
def wo (l : List (α × Value)) (a : α) : List (α × Value) := l.filter fun p => p.1 ≠ a
/-- With a key put. -/
def upd (l : List (α × Value)) (a : α) (v : Value) : List (α × Value) := (a, v) :: wo l a

theorem wo_perm {a : α} {A B : List MapEntry} {e0 : MapEntry} (hinj : ∀ a b, mk a = mk b → a = b) (hp : ((A ++ e0 :: B).map kv).Perm (l.map fun p => (mk p.1, p.2))) (h0 : e0.key = mk a) (hne : ∀ x ∈ A ++ B, x.key ≠ mk a) :
    ((A ++ B).map kv).Perm ((wo l a).map fun p => (mk p.1, p.2)) := by
  classical
  have h1 := hp.filter (fun q => decide (q.1 ≠ mk a))
  have e1 : ((A ++ e0 :: B).map kv).filter (fun q => decide (q.1 ≠ mk a)) = (A ++ B).map kv := by
    rw [List.map_append, List.map_cons, List.filter_append, List.filter_cons, List.map_append]
    have ha : (A.map kv).filter (fun q => decide (q.1 ≠ mk a)) = A.map kv := List.filter_eq_self.2 (fun q hq => by
      obtain ⟨x, hx, rfl⟩ := List.mem_map.1 hq; exact decide_eq_true (hne x (List.mem_append_left _ hx)))
    have hb : (B.map kv).filter (fun q => decide (q.1 ≠ mk a)) = B.map kv := List.filter_eq_self.2 (fun q hq => by
      obtain ⟨x, hx, rfl⟩ := List.mem_map.1 hq; exact decide_eq_true (hne x (List.mem_append_right _ hx)))
    rw [ha, hb]; simp [kv, h0]
  have e2 : (l.map fun p => (mk p.1, p.2)).filter (fun q => decide (q.1 ≠ mk a)) = (wo l a).map fun p => (mk p.1, p.2) := by
    rw [List.filter_map, wo]
    congr 1
    apply List.filter_congr
    intro p _
    simp only [Function.comp, ne_eq, decide_not, Bool.not_eq_eq_eq_not, Bool.not_not]
    by_cases hpa : p.1 = a
    · simp [hpa]
    · have : ¬ mk p.1 = mk a := fun h => hpa (hinj _ _ h)
      simp [hpa, this]
  rw [e1, e2] at h1
  exact h1

theorem wo_none {a : α} (h : look l a = none) : wo l a = l := by
  rw [wo, List.filter_eq_self]
  intro p hp
  simp only [ne_eq, decide_not, Bool.not_eq_eq_eq_not, Bool.not_true, decide_eq_false_iff_not]
  intro he
  rw [look] at h
  cases hf : l.find? (fun q => q.1 = a) with
  | none => have := List.find?_eq_none.1 hf p hp; simp at this; exact this he
  | some q => rw [hf] at h; cases h

theorem wo_nodup {a : α} (h : (l.map (·.1)).Nodup) : ((wo l a).map (·.1)).Nodup := h.sublist ((List.filter_sublist).map _)
theorem upd_nodup {a : α} {v : Value} (h : (l.map (·.1)).Nodup) : ((upd l a v).map (·.1)).Nodup := by
  rw [upd, List.map_cons, List.nodup_cons]
  refine ⟨fun hm => ?_, wo_nodup h⟩
  obtain ⟨p, hp, he⟩ := List.mem_map.1 hm
  have := (List.mem_filter.1 hp).2
  simp at this; exact this he

theorem MapAt.update (h : MapAt w mk b l) (K : Keys P k mk ok) (hok : ∀ p ∈ l, ok p.1) (ht : P.underlying t = some (.map k e)) (a : α) (ha : ok a) (v : Value) :
    ∃ o, (Instr.mapUpdate t (.map (some b)) (mk a) v).run P w = .ok () (setBlock w b o) ∧ MapAt (setBlock w b o) mk b (upd l a v) := by
  obtain ⟨kl, hkl⟩ := K.key a ha
  obtain ⟨es, clock, h1, h2, h3, h4, h5, ⟨f1, f2, f3⟩ | ⟨A, e0, B, hsp, f1, h0, f2, hne⟩⟩ := h.found K hok a ha
  · refine ⟨.map (es.push ⟨mk a, v, clock⟩) (clock + 1), ?_, ?_⟩
    · simp [Instr.mapUpdate, run_underlying ht, MapKept.run_getObj_map h1, K.law.check w false hkl, f1, MapKept.run_setObj_map _ h1, Result.andThen, setBlock]
    · refine ⟨_, _, ChangeMaps.heap_setBlock_same h1 _, ?_, ?_, ?_, upd_nodup h5⟩
      · rw [Array.toList_push, List.map_append, upd, List.map_cons, wo_none f2]
        exact (List.perm_append_comm.trans (List.Perm.cons _ h2))
      · intro x hx
        rw [Array.toList_push, List.mem_append] at hx
        rcases hx with hx | hx
        · have := h3 x hx; omega
        · simp at hx; subst hx; simp
      · rw [Array.toList_push, List.map_append, List.nodup_append]
        refine ⟨h4, by simp, fun x hx y hy => ?_⟩
        obtain ⟨z, hz, rfl⟩ := List.mem_map.1 hx
        simp at hy; subst hy
        have := h3 z hz; omega
  · have hAj : es[A.length]? = some e0 := by
      have : es.toList[A.length]? = some e0 := by rw [hsp]; simp
      simpa using this
    refine ⟨.map (es.modify A.length fun x => { x with key := mk a, val := v }) clock, ?_, ?_⟩
    · simp [Instr.mapUpdate, run_underlying ht, MapKept.run_getObj_map h1, K.law.check w false hkl, f1, hAj, h0, K.law.stays w hkl, MapKept.run_setObj_map _ h1, Result.andThen, setBlock]
    · have hnew : (es.modify A.length fun x => { x with key := mk a, val := v }).toList = A ++ { e0 with key := mk a, val := v } :: B := by
        rw [Array.toList_modify, hsp, modify_mid]
      refine ⟨_, _, ChangeMaps.heap_setBlock_same h1 _, ?_, ?_, ?_, upd_nodup h5⟩
      · rw [hnew]
        rw [hsp] at h2
        have hw := wo_perm K.inj h2 h0 hne
        rw [upd, List.map_cons]
        refine List.Perm.trans ?_ (List.Perm.cons _ hw)
        rw [List.map_append, List.map_cons, List.map_append]
        exact List.perm_middle
      · intro x hx
        rw [hnew, List.mem_append, List.mem_cons] at hx
        rcases hx with hx | rfl | hx
        · exact h3 x (by rw [hsp]; exact List.mem_append_left _ hx)
        · exact h3 e0 (by rw [hsp]; simp)
        · exact h3 x (by rw [hsp]; exact List.mem_append_right _ (List.mem_cons_of_mem _ hx))
      · rw [hnew, List.map_append, List.map_cons]
        rw [hsp, List.map_append, List.map_cons] at h4
        exact h4
end
end Go.Proofs.YthghhcnpbehaiaaGreat
