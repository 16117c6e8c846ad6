/- chip.New, no faults. -/
import Derived.Test.YthghhcnpbehaiaaGreatFa30
import Derived.Test.YthghhcnpbehaiaaGreatFa14
import Derived.Test.YthghhcnpbehaiaaGreatFa37
import Derived.Deep.AppendLies
import Derived.Test.YthghhcnpbehaiaaGreatFa01

namespace Go.Proofs.YthghhcnpbehaiaaGreat
open Go.RowKit

theorem clone56_nil (w : World) : Calls Tryz.prog 56 #[.slice none 0 0] w fun e w' => e = .returned (.slice none 0 0) ∧ w = w' := by
  have hnl := Lib.run_eql_slice_nil (P := Tryz.prog)
  go_enter Tryz.func56, Tryz.ntmps56
  go_wp2
  go_ret
  exact ⟨rfl, rfl⟩

theorem info96 : (Tryz.prog.info? 96).map (fun i => (i.zero.map (·.cells), i.size, i.bytes)) = some (some #[.slice none 0 0, i64 0, i64 0, i64 0], 4, 48) := by kernel_rfl

def zero96 : Value := .agg #[.slice none 0 0, i64 0, i64 0, i64 0]
theorem info96v : (Tryz.prog.info? 96).map (fun i => (i.zero, i.size, i.bytes)) = some (some zero96, 4, 48) := by kernel_rfl

theorem run_builtin_append {P : Program} {a : Act} {o : Oper} {w w' : World} (s x : Operand) (t : TypeId) (ho : o.op = .call { callee := .builtin .append, args := #[s, x], argTypes := #[t, t] })
    {v vx v' : Value} (hs : a.eval s = v) (hx : a.eval x = vx) (hrun : (Builtin.append_ #[t, t] o.type #[v, vx]).run P w = .ok v' w') : (execOp a.eval o).run P w = .ok (.value v') w' := by
  simp [execOp, ho, resolve, invoke, builtin, hs, hx, hrun, Result.andThen]

/-- One new block's cells. -/
def nb (n : Nat) (s : Value) : List Value := [s, i64 0, i64 0, i64 0]

structure J6 (B : Nat) (wr : World) (cur : Value) (j : Nat) (xs : List Value) (n : Nat) (e : Env) (w : World) : Prop where
  t : Turns (fun k => cur.ownBlock = some k) wr w
  low : e 14 = none → Below wr.heap.size wr w
  o5 : ∀ u, e 5 = some u → ∃ q, u = .slice (some ⟨q, 0, none⟩) 1 1 ∧ wr.heap.size ≤ q ∧ w.cell? ⟨q, 0, none⟩ = some (u8 255)
  o11 : ∀ u, e 11 = some u → e 5 ≠ none ∧ ∃ g, u = .slice (some ⟨g, 0, none⟩) n n ∧ wr.heap.size ≤ g ∧ w.heap[g]? = some (.cells ((List.replicate n 255).map u8).toArray 5 (0, 0))
  o12 : ∀ u, e 12 = some u → ∃ s, e 11 = some s ∧ u = .agg (nb n s).toArray
  o13 : ∀ u, e 13 = some u → ∃ s, e 11 = some s ∧ ∃ r, u = .slice (some ⟨r, 0, none⟩) 1 1 ∧ wr.heap.size ≤ r ∧ Row w r 0 (nb n s)
  o14 : ∀ u, e 14 = some u → e 13 ≠ none ∧ (∃ s, e 11 = some s ∧ w.ownsRow B 96 4 u (j + 1) (xs ++ nb n s)) ∧ (u.ownBlock = cur.ownBlock ∨ ∃ g, u.ownBlock = some g ∧ wr.heap.size ≤ g)

namespace J6
variable {B : Nat} {wr w w' : World} {cur : Value} {j : Nat} {xs : List Value} {n : Nat} {e : Env}
theorem plain (h : J6 B wr cur j xs n e w) {k : Nat} (v : Value) (h5 : k ≠ 5) (h11 : k ≠ 11) (h12 : k ≠ 12) (h13 : k ≠ 13) (h14 : k ≠ 14) : J6 B wr cur j xs n (e.put k v) w := by
  refine ⟨h.t, ?_, ?_, ?_, ?_, ?_, ?_⟩
  · rw [Env.put_ne _ (Ne.symm h14)]; exact h.low
  · rw [Env.put_ne _ (Ne.symm h5)]; exact h.o5
  · rw [Env.put_ne _ (Ne.symm h11), Env.put_ne _ (Ne.symm h5)]; exact h.o11
  · rw [Env.put_ne _ (Ne.symm h12), Env.put_ne _ (Ne.symm h11)]; exact h.o12
  · rw [Env.put_ne _ (Ne.symm h13), Env.put_ne _ (Ne.symm h11)]; exact h.o13
  · rw [Env.put_ne _ (Ne.symm h14), Env.put_ne _ (Ne.symm h13), Env.put_ne _ (Ne.symm h11)]; exact h.o14
/-- Whatever is made above leaves all. -/
theorem grow (h : J6 B wr cur j xs n e w) (hb : Below w.heap.size w w') : J6 B wr cur j xs n e w' := by
  refine ⟨h.t.trans (Turns.of_below hb), fun h0 => (h.low h0).trans (hb.mono (h.low h0).size), fun u hu => ?_, fun u hu => ?_, h.o12, fun u hu => ?_, fun u hu => ?_⟩
  · obtain ⟨q, h1, h2, h3⟩ := h.o5 u hu; exact ⟨q, h1, h2, keepc hb h3⟩
  · obtain ⟨h0, g, h1, h2, h3⟩ := h.o11 u hu; exact ⟨h0, g, h1, h2, (hb.block _ (heap_lt h3)).trans h3⟩
  · obtain ⟨s, h0, r, h1, h2, h3⟩ := h.o13 u hu; exact ⟨s, h0, r, h1, h2, h3.below hb⟩
  · obtain ⟨h0, ⟨s, h1, h2⟩, h3⟩ := h.o14 u hu
    exact ⟨h0, ⟨s, h1, h2.kept (row := none) ⟨hb.os, hb.tape, hb.output, hb.size, fun k hk _ => hb.block k hk⟩ (by cases u.ownBlock <;> simp)⟩, h3⟩
theorem none5 (h : J6 B wr cur j xs n e w) (h5 : e 5 = none) : e 11 = none ∧ e 12 = none ∧ e 13 = none ∧ e 14 = none := by
  have h11 : e 11 = none := by
    cases he : e 11 with
    | none => rfl
    | some u => exact absurd h5 (h.o11 u he).1
  have h13 : e 13 = none := by
    cases he : e 13 with
    | none => rfl
    | some u => obtain ⟨s, h0, _⟩ := h.o13 u he; rw [h11] at h0; cases h0
  have h14 : e 14 = none := by
    cases he : e 14 with
    | none => rfl
    | some u => exact absurd h13 (h.o14 u he).1
  have h12 : e 12 = none := by
    cases he : e 12 with
    | none => rfl
    | some u => obtain ⟨s, h0, _⟩ := h.o12 u he; rw [h11] at h0; cases h0
  exact ⟨h11, h12, h13, h14⟩
theorem none11 (h : J6 B wr cur j xs n e w) (h11 : e 11 = none) : e 12 = none ∧ e 13 = none ∧ e 14 = none := by
  have h13 : e 13 = none := by
    cases he : e 13 with
    | none => rfl
    | some u => obtain ⟨s, h0, _⟩ := h.o13 u he; rw [h11] at h0; cases h0
  have h14 : e 14 = none := by
    cases he : e 14 with
    | none => rfl
    | some u => exact absurd h13 (h.o14 u he).1
  have h12 : e 12 = none := by
    cases he : e 12 with
    | none => rfl
    | some u => obtain ⟨s, h0, _⟩ := h.o12 u he; rw [h11] at h0; cases h0
  exact ⟨h12, h13, h14⟩
theorem none13 (h : J6 B wr cur j xs n e w) (h13 : e 13 = none) : e 14 = none := by
  cases he : e 14 with
  | none => rfl
  | some u => exact absurd h13 (h.o14 u he).1
theorem put5 (h : J6 B wr cur j xs n e w) (h5 : e 5 = none) (q : Nat) (hq : wr.heap.size ≤ q) (hc : w.cell? ⟨q, 0, none⟩ = some (u8 255)) : J6 B wr cur j xs n (e.put 5 (.slice (some ⟨q, 0, none⟩) 1 1)) w := by
  obtain ⟨h11, h12, h13, h14⟩ := h.none5 h5
  refine ⟨h.t, h.low, fun u hu => ?_, fun u hu => ?_, h.o12, h.o13, h.o14⟩
  · rw [Env.put_self] at hu; cases hu; exact ⟨q, rfl, hq, hc⟩
  · rw [Env.put_ne _ (by decide), h11] at hu; cases hu
theorem put11 (h : J6 B wr cur j xs n e w) (h11 : e 11 = none) (h5 : e 5 ≠ none) (g : Nat) (hg : wr.heap.size ≤ g) (hc : w.heap[g]? = some (.cells ((List.replicate n 255).map u8).toArray 5 (0, 0))) : J6 B wr cur j xs n (e.put 11 (.slice (some ⟨g, 0, none⟩) n n)) w := by
  obtain ⟨h12, h13, h14⟩ := h.none11 h11
  refine ⟨h.t, h.low, h.o5, fun u hu => ?_, fun u hu => ?_, fun u hu => ?_, fun u hu => ?_⟩
  · rw [Env.put_self] at hu; cases hu; exact ⟨h5, g, rfl, hg, hc⟩
  · rw [Env.put_ne _ (by decide), h12] at hu; cases hu
  · rw [Env.put_ne _ (by decide), h13] at hu; cases hu
  · rw [Env.put_ne _ (by decide), h14] at hu; cases hu
theorem put12 (h : J6 B wr cur j xs n e w) (s : Value) (h11 : e 11 = some s) : J6 B wr cur j xs n (e.put 12 (.agg (nb n s).toArray)) w := by
  refine ⟨h.t, h.low, h.o5, h.o11, fun u hu => ?_, h.o13, h.o14⟩
  rw [Env.put_self] at hu; cases hu; exact ⟨s, h11, rfl⟩
theorem put13 (h : J6 B wr cur j xs n e w) (h13 : e 13 = none) (s : Value) (h11 : e 11 = some s) (r : Nat) (hr : wr.heap.size ≤ r) (hc : Row w r 0 (nb n s)) : J6 B wr cur j xs n (e.put 13 (.slice (some ⟨r, 0, none⟩) 1 1)) w := by
  have h14 := h.none13 h13
  refine ⟨h.t, h.low, h.o5, h.o11, h.o12, fun u hu => ?_, fun u hu => ?_⟩
  · rw [Env.put_self] at hu; cases hu; exact ⟨s, h11, r, rfl, hr, hc⟩
  · rw [Env.put_ne _ (by decide), h14] at hu; cases hu
theorem put14 (h : J6 B wr cur j xs n e w) (h14 : e 14 = none) (h13 : e 13 ≠ none) (s : Value) (h11 : e 11 = some s) (hcur : ∀ k, cur.ownBlock = some k → k < wr.heap.size) (g cap : Nat) (hw : w.grownBy w' cur.ownBlock)
    (hown : w'.ownsRow B 96 4 (.slice (some ⟨g, 0, none⟩) (j + 1) cap) (j + 1) (xs ++ nb n s)) (hg : cur.ownBlock = some g ∨ g = w.heap.size) : J6 B wr cur j xs n (e.put 14 (.slice (some ⟨g, 0, none⟩) (j + 1) cap)) w' := by
  have hsz := h.t.size
  have hfar : ∀ q, wr.heap.size ≤ q → some q ≠ cur.ownBlock := fun q hq he => by have := hcur q he.symm; omega
  refine ⟨h.t.trans ⟨hw.os, hw.tape, hw.output, hw.size, fun k hk hm => hw.block k hk (fun he => hm he.symm)⟩, fun h0 => ?_, fun u hu => ?_, fun u hu => ?_, h.o12, fun u hu => ?_, fun u hu => ?_⟩
  · rw [Env.put_self] at h0; cases h0
  · obtain ⟨q, h1, h2, h3⟩ := h.o5 u hu
    exact ⟨q, h1, h2, (World.cell?_of_block (a := ⟨q, 0, none⟩) (hw.block q (World.block_lt_of_cell? _ _ h3) (hfar q h2))).trans h3⟩
  · obtain ⟨h0, g, h1, h2, h3⟩ := h.o11 u hu; exact ⟨h0, g, h1, h2, (hw.block _ (heap_lt h3) (hfar g h2)).trans h3⟩
  · obtain ⟨s, h0, r, h1, h2, h3⟩ := h.o13 u hu; exact ⟨s, h0, r, h1, h2, h3.of_block (hw.block _ (h3.lt (by simp [nb])) (hfar r h2))⟩
  · rw [Env.put_self] at hu; cases hu
    refine ⟨h13, ⟨s, h11, hown⟩, ?_⟩
    rcases hg with hg | rfl
    · exact .inl hg.symm
    · exact .inr ⟨_, rfl, by omega⟩
end J6
end Go.Proofs.YthghhcnpbehaiaaGreat

/- chip.New, no faults, walked. -/
namespace Go.Proofs.YthghhcnpbehaiaaGreat
open Go.RowKit

def Chip.new (g : Geo) : Chip := ⟨g, [], List.replicate g.B.toNat ⟨List.replicate (g.P * (g.Y + 16)).toNat 255, 0, 0, 0⟩, false, 0, 0, 0, 0, 0, 0⟩

/-- The struct while blocks are made. -/
abbrev newCells (g : Geo) (cur : Value) : List Value :=
  [i64 g.B, i64 g.P, i64 g.Y, i64 g.S, i64 g.T, .slice none 0 0, cur, .bool false, i64 0, i64 0, i64 0, i64 0, u8 0, i64 0]

theorem own_row4 {w : World} {base e n g cap : Nat} {xs : List Value} (h : w.ownsRow base e 4 (.slice (some ⟨g, 0, none⟩) n cap) n xs) : base ≤ g ∧ g < w.heap.size ∧ n ≤ cap ∧ Row w g 0 xs ∧ ∃ cur, w.heap[g]? = some (.cells cur e (0, 0)) := by
  obtain ⟨hl, ⟨h1, h2⟩ | ⟨g', cap', cur, hv, hb, hh, hc1, hc2, hs, ht⟩⟩ := h
  · cases h1
  · simp only [Value.slice.injEq, Option.some.injEq, Addr.mk.injEq, and_true, true_and] at hv
    obtain ⟨rfl, rfl⟩ := hv
    refine ⟨hb, (Array.getElem?_eq_some_iff.1 hh).1, hc1, fun i v hi => ?_, cur, hh⟩
    rw [Nat.zero_add]
    have hin : i < xs.length := (List.getElem?_eq_some_iff.1 hi).1
    refine ⟨?_, by simp [World.frozen?, hh]⟩
    simp only [World.cell?, hh, Option.isSome_none, Bool.false_eq_true, if_false]
    rw [← ht, List.getElem?_take] at hi
    rw [hl] at hin
    rw [if_pos hin] at hi
    simpa using hi

theorem flat4 {α : Type} (f : α → List Value) (hf : ∀ a, (f a).length = 4) : ∀ (l : List α) (i : Nat) (a : α) (k : Nat), l[i]? = some a → k < 4 → (l.flatMap f)[i * 4 + k]? = (f a)[k]?
  | [], i, a, k, h, _ => by simp at h
  | x :: l, 0, a, k, h, hk => by
    simp at h; subst h
    rw [List.flatMap_cons, Nat.zero_mul, Nat.zero_add, List.getElem?_append_left (by rw [hf]; exact hk)]
  | x :: l, i + 1, a, k, h, hk => by
    rw [List.flatMap_cons, List.getElem?_append_right (by rw [hf]; omega), hf, show (i + 1) * 4 + k - 4 = i * 4 + k by omega]
    exact flat4 f hf l i a k (by simpa using h) hk

theorem chip_new {w : World} {base cb bl bcap n bN : Nat} {bs : List Nat} {g : Geo} (hg : g.okB = true) (hn : g.P * (g.Y + 16) = n) (hB : g.B = bN) (hrow : Row w cb 0 (newCells g (.slice (some ⟨bl, 0, none⟩) bN bcap)))
    (hown : w.ownsRow base 96 4 (.slice (some ⟨bl, 0, none⟩) bN bcap) bN (bs.flatMap fun k => nb n (.slice (some ⟨k, 0, none⟩) n n))) (hbs : bs.length = bN) (hnd : bs.Nodup) (h1 : cb ≠ bl) (h2 : ∀ k ∈ bs, cb ≠ k)
    (hall : ∀ k ∈ bs, w.heap[k]? = some (.cells ((List.replicate n 255).map u8).toArray 5 (0, 0))) : ChipAt w ⟨cb, bl, bs, bcap, none, 0⟩ (Chip.new g) := by
  obtain ⟨o1, o2, o3, o4, cur, o5⟩ := own_row4 hown
  have hl : (Chip.new g).bk.length = bN := by simp [Chip.new, hB]
  refine ⟨?_, ⟨none, 0, by simp [Chip.new], by simp [Chip.new], .inl (by simp [Chip.new])⟩, by simp [Chip.new], by simp, by rw [hl]; exact hbs, by rw [hl]; exact o3, ?_, h1, fun h => h2 cb h rfl, ?_, hnd, hg, by rw [hl]; exact hB.symm, ?_, ⟨by simp [Chip.new], by simp [Chip.new]⟩⟩
  · have : Chip.cells ⟨cb, bl, bs, bcap, none, 0⟩ (Chip.new g) = newCells g (.slice (some ⟨bl, 0, none⟩) bN bcap) := by
      simp only [Chip.cells, hl]; rfl
    rw [this]; exact hrow
  · intro i b k hb hk
    have hb' : b = ⟨List.replicate n 255, 0, 0, 0⟩ := by
      simp only [Chip.new, hn, Int.toNat_natCast] at hb
      rw [List.getElem?_replicate] at hb
      split at hb
      · exact (Option.some.inj hb).symm
      · cases hb
    subst hb'
    have hk : bs[i]? = some k := hk
    refine ⟨?_, hall k (List.mem_of_getElem? hk)⟩
    have := o4.sub (n := i * 4) (ds := nb n (.slice (some ⟨k, 0, none⟩) n n)) (fun j v hj => by
      have hj4 : j < 4 := (List.getElem?_eq_some_iff.1 hj).1
      rw [flat4 (fun k => nb n (.slice (some ⟨k, 0, none⟩) n n)) (fun _ => rfl) bs i k j hk hj4]; exact hj)
    rw [Nat.zero_add] at this
    simpa [Blk.cells, nb] using this
  · intro h
    have := hall bl h
    rw [o5] at this
    injection this with this
    injection this with _ ht
    exact absurd ht (by decide)
  · intro i b hb
    have hb' : b = ⟨List.replicate n 255, 0, 0, 0⟩ := by
      simp only [Chip.new, hn, Int.toNat_natCast] at hb
      rw [List.getElem?_replicate] at hb
      split at hb
      · exact (Option.some.inj hb).symm
      · cases hb
    subst hb'
    have hp := ((Geo.ok_iff _).1 hg).p1
    refine ⟨by rw [show (Chip.new g).g = g from rfl, hn]; simp, by simp, ?_, by simp, by simp, by simp, by simp⟩
    show (0 : Int) ≤ g.P
    omega

set_option maxHeartbeats 2000000 in
set_option maxRecDepth 100000 in
theorem new14 (g : Geo) (w : World) (hg : g.okB = true) : Calls Tryz.prog 14 #[.agg #[i64 g.B, i64 g.P, i64 g.Y, i64 g.S, i64 g.T], .slice none 0 0] w fun e w' =>
    (∃ A, e = .returned (ptr A.c) ∧ ChipAt w' A (Chip.new g) ∧ (∀ k, A.foot k → w.heap.size ≤ k) ∧ A.fA = none) ∧ Below w.heap.size w w' := by
  have hgo := (Geo.ok_iff _).1 hg
  go_enter Tryz.func14, Tryz.ntmps14
  go_wp2_with fail
  refine (planMay55_nil g none 0 _).mono ?_
  rw [hg]
  rintro e w1 ⟨rfl, hb1⟩
  have hw1 : Below w.heap.size w w1 := by (repeat (first | exact Below.refl _ _ | assumption | (with_reducible refine Below.drew ?_) | (with_reducible refine below_drewN' ?_ _) | (with_reducible refine ext_alloc ?_ ?_; · (first | omega | (simp only [World.size_alloc, World.size_setCell, World.size_drew, World.heap_drewN]; omega) | (simp; omega))) | (with_reducible refine ext_setCell ?_ ?_; · (first | omega | (simp only [World.size_alloc, World.size_setCell, World.size_drew, World.heap_drewN]; omega) | (simp; omega))) | (refine ext_call (by assumption) ?_ ?_; · (first | omega | (simp only [World.size_alloc, World.size_setCell, World.size_drew, World.heap_drewN]; omega) | (simp; omega)))))
  have z1 : w.heap.size < w1.heap.size := by have := hb1.size; simp at this; omega
  have c0 : w1.cell? ⟨w.heap.size, 0, none⟩ = some (i64 g.B) := keepc hb1 (by simp)
  have c1 : w1.cell? ⟨w.heap.size, 1, none⟩ = some (i64 g.P) := keepc hb1 (by simp)
  have c2 : w1.cell? ⟨w.heap.size, 2, none⟩ = some (i64 g.Y) := keepc hb1 (by simp)
  have c3 : w1.cell? ⟨w.heap.size, 3, none⟩ = some (i64 g.S) := keepc hb1 (by simp)
  have c4 : w1.cell? ⟨w.heap.size, 4, none⟩ = some (i64 g.T) := keepc hb1 (by simp)
  go_wp2_with fail
  refine wp_region_keep 3 (fun wJ => Below (w1).heap.size (w1) wJ) (by kernel_rfl) (by kernel_rfl) (by (repeat (first | exact Below.refl _ _ | assumption | (with_reducible refine Below.drew ?_) | (with_reducible refine below_drewN' ?_ _) | (with_reducible refine ext_alloc ?_ ?_; · (first | omega | (simp only [World.size_alloc, World.size_setCell, World.size_drew, World.heap_drewN]; omega) | (simp; omega))) | (with_reducible refine ext_setCell ?_ ?_; · (first | omega | (simp only [World.size_alloc, World.size_setCell, World.size_drew, World.heap_drewN]; omega) | (simp; omega))) | (refine ext_call (by assumption) ?_ ?_; · (first | omega | (simp only [World.size_alloc, World.size_setCell, World.size_drew, World.heap_drewN]; omega) | (simp; omega)))))) ?_
  simp only [List.take_succ_cons, List.take_zero, List.drop_succ_cons, List.drop_zero]
  iterate 2 (apply keep_yes; (· rfl); (· (intro w' hJ; (try obtain ⟨hc', hf'⟩ := bcell hJ); refine gives_of (by (go_simp; rfl)) rfl hJ)); simp only [Act.put, List.setIfInBounds_toArray, List.set_cons_zero, List.set_cons_succ])
  (apply keep_yes; (· rfl); (· (intro w' hJ; refine gives_call (v := .slice none 0 0) (by (go_simp; first | rfl | exact ⟨⟨rfl, rfl⟩, rfl⟩)) ?_; go_at_call 56; refine (clone56_nil _).mono ?_; rintro e w'' ⟨rfl, rfl⟩; exact ⟨rfl, hJ⟩)); simp only [Act.put, List.setIfInBounds_toArray, List.set_cons_zero, List.set_cons_succ])
  refine keep_nil ?_
  intro w2 hb2
  have z2 := hb2.size
  replace c0 := keepc hb2 c0
  replace c1 := keepc hb2 c1
  replace c2 := keepc hb2 c2
  replace c3 := keepc hb2 c3
  replace c4 := keepc hb2 c4
  have hw2 : Below w.heap.size w w2 := ext_call hb2 hw1.size hw1
  clear hb1 hb2
  have lt2 : w.heap.size < w2.heap.size := by omega
  obtain ⟨n, hn⟩ : ∃ n : Nat, g.P * (g.Y + 16) = n := ⟨(g.P * (g.Y + 16)).toNat, by have := hgo.p1; have := hgo.y1; rw [Int.toNat_of_nonneg (Int.mul_nonneg (by omega) (by omega))]⟩
  have hn1 : 1 ≤ n ∧ n ≤ 100000 := by
    have p1 := hgo.p1; have p2 := hgo.p2; have y1 := hgo.y1; have y2 := hgo.y2
    have a1 : (1 : Int) * 1 ≤ g.P * (g.Y + 16) := Int.mul_le_mul (by omega) (by omega) (by omega) (by omega)
    have a2 : g.P * (g.Y + 16) ≤ 8 * 80 := Int.mul_le_mul (by omega) (by omega) (by omega) (by omega)
    omega
  obtain ⟨bN, hB⟩ : ∃ bN : Nat, g.B = bN := ⟨g.B.toNat, by have := hgo.b1; omega⟩
  have hB1 : 1 ≤ bN ∧ bN ≤ 1000 := by have := hgo.b1; have := hgo.b2; omega
  have HN := Lib.hid hn
  have HG := Lib.hid hgo
  have HBN := Lib.hid hB
  clear hn hgo hB
  go_wp2_with fail
  go_loopw [17] (fun i wr => ∃ (j : Nat) (cur : Value) (bs : List Nat), j ≤ bN ∧ i = .int .i64 j ∧ Below w.heap.size w wr ∧ bs.length = j ∧
      wr.cell? ⟨w.heap.size, 0, none⟩ = some (i64 g.B) ∧ wr.cell? ⟨w.heap.size, 1, none⟩ = some (i64 g.P) ∧ wr.cell? ⟨w.heap.size, 2, none⟩ = some (i64 g.Y) ∧ wr.cell? ⟨w.heap.size, 3, none⟩ = some (i64 g.S) ∧ wr.cell? ⟨w.heap.size, 4, none⟩ = some (i64 g.T) ∧
      Row wr w2.heap.size 0 (newCells g cur) ∧ wr.ownsRow w.heap.size 96 4 cur j (bs.flatMap fun k => nb n (.slice (some ⟨k, 0, none⟩) n n)) ∧ (∀ bl, cur.ownBlock = some bl → w2.heap.size < bl) ∧
      bs.Nodup ∧ ∀ k ∈ bs, w2.heap.size < k ∧ wr.heap[k]? = some (.cells ((List.replicate n 255).map u8).toArray 5 (0, 0)) ∧ cur.ownBlock ≠ some k) (fun i _ => bN - (RowKit.intOf i).toNat)
  case atStart =>
    refine ⟨0, .slice none 0 0, [], Nat.zero_le _, rfl, hw2.alloc (by omega) _, rfl, keepa c0, keepa c1, keepa c2, keepa c3, keepa c4, Row.new _ _ _, World.ownsRow_nil _ _ _ _, by simp [Value.ownBlock], by simp, by simp⟩
  case round =>
    obtain ⟨j, cur, bs, hj, rfl, hbr, hbs, k0, k1, k2, k3, k4, hrow, hown, hcb, hnd, hall⟩ := hrel
    have hBN := HBN.out
    have j0 : (0 : Int) ≤ (j : Int) := by omega
    by_cases hlt : (j : Int) < g.B
    · clear hBN
      have hjn : j < bN := by have := HBN.out; omega
      have z5 := hbr.size
      have hn16 : IntKind.i64.wrap (g.P * (g.Y + 16)) = (n : Int) := by rw [HN.out]; exact IntWalk.i64_in _ (by omega)
      have e6 : wr.cell? ⟨w2.heap.size, 6, none⟩ = some cur := hrow.cell0 6 rfl
      have lt5 : w2.heap.size < wr.heap.size := World.block_lt_of_cell? _ _ e6
      have lt6 : w.heap.size < wr.heap.size := by omega
      have hnew := fun k hk => (hown.lt k hk).2
      have hk : ∀ e' w', J6 w.heap.size wr cur j (bs.flatMap fun k => nb n (.slice (some ⟨k, 0, none⟩) n n)) n e' w' → w'.cell? ⟨w2.heap.size, 6, none⟩ = some cur ∧ w'.cell? ⟨w.heap.size, 0, none⟩ = some (i64 g.B) ∧ w'.cell? ⟨w.heap.size, 1, none⟩ = some (i64 g.P) ∧ w'.cell? ⟨w.heap.size, 2, none⟩ = some (i64 g.Y) ∧ w'.cell? ⟨w.heap.size, 3, none⟩ = some (i64 g.S) ∧ w'.cell? ⟨w.heap.size, 4, none⟩ = some (i64 g.T) := fun e' w' hJ => by
        have far : ∀ k, k ≤ w2.heap.size → ¬ cur.ownBlock = some k := fun k hk he => by have := hcb _ he; omega
        exact ⟨(hJ.t.cell lt5 (far _ (Nat.le_refl _))).trans e6, (hJ.t.cell lt6 (far _ (by show w.heap.size ≤ _; omega))).trans k0, (hJ.t.cell lt6 (far _ (by show w.heap.size ≤ _; omega))).trans k1, (hJ.t.cell lt6 (far _ (by show w.heap.size ≤ _; omega))).trans k2, (hJ.t.cell lt6 (far _ (by show w.heap.size ≤ _; omega))).trans k3, (hJ.t.cell lt6 (far _ (by show w.heap.size ≤ _; omega))).trans k4⟩
      go_wp2_with fail
      apply wp_region_rel 15 (J6 w.heap.size wr cur j (bs.flatMap fun k => nb n (.slice (some ⟨k, 0, none⟩) n n)) n) [[], [], [1], [2], [3], [], [], [6], [], [8], [7, 9], [5, 10], [11], [12], [4, 13]]
      · kernel_rfl
      · kernel_rfl
      · exact ⟨(Turns.refl _ _).drew, fun _ => (Below.refl _ _).drew, by simp, by simp, by simp, by simp, by simp⟩
      · kernel_rfl
      simp only [List.take_succ_cons, List.take_zero, List.drop_succ_cons, List.drop_zero]
      iterate 5 (apply rel_val; (· rfl); (· (intro e' w' hD he hJ; obtain ⟨e6', k0', k1', k2', k3', k4'⟩ := hk _ _ hJ; refine relv_of (by (go_simp; first | rfl | exact ⟨rfl, rfl⟩)) ⟨rfl, ?_⟩; exact hJ.plain _ (by decide) (by decide) (by decide) (by decide) (by decide))); simp only [Act.put, List.setIfInBounds_toArray, List.set_cons_zero, List.set_cons_succ])
      apply rel_yes (φ := fun _ u => ∃ q, u = .slice (some ⟨q, 0, none⟩) 1 1)
      · rfl
      · exact ⟨_, 0, rfl⟩
      · intro e' w' hD he hJ
        refine relv_of (by (go_simp; first | rfl | exact ⟨rfl, rfl⟩)) ⟨⟨_, rfl⟩, ?_⟩
        exact (hJ.grow ((Below.refl _ _).alloc (Nat.le_refl _) _)).put5 he _ hJ.t.size (by simp)
      rintro v ⟨q, rfl⟩
      simp only [Act.put, List.setIfInBounds_toArray, List.set_cons_zero, List.set_cons_succ]
      iterate 3 (apply rel_val; (· rfl); (· (intro e' w' hD he hJ; obtain ⟨e6', k0', k1', k2', k3', k4'⟩ := hk _ _ hJ; refine relv_of (by (go_simp; first | rfl | exact ⟨rfl, rfl⟩)) ⟨rfl, ?_⟩; exact hJ.plain _ (by decide) (by decide) (by decide) (by decide) (by decide))); simp only [Act.put, List.setIfInBounds_toArray, List.set_cons_zero, List.set_cons_succ])
      apply rel_val (v := i64 (g.Y + 16))
      · rfl
      · intro e' w' hD he hJ
        refine rel_call (by (go_simp; first | rfl | exact ⟨⟨rfl, rfl⟩, rfl⟩)) ?_
        refine (raw58 g _ hg).mono ?_
        rintro e w'' ⟨rfl, hb⟩
        exact ⟨_, rfl, rfl, (hJ.grow hb).plain _ (by decide) (by decide) (by decide) (by decide) (by decide)⟩
      simp only [Act.put, List.setIfInBounds_toArray, List.set_cons_zero, List.set_cons_succ]
      (apply rel_val; (· rfl); (· (intro e' w' hD he hJ; skip; refine relv_of (by (go_simp; first | rfl | exact ⟨rfl, rfl⟩)) ⟨rfl, ?_⟩; exact hJ.plain _ (by decide) (by decide) (by decide) (by decide) (by decide))); simp only [Act.put, List.setIfInBounds_toArray, List.set_cons_zero, List.set_cons_succ])
      apply rel_yes (φ := fun _ u => ∃ gg, u = .slice (some ⟨gg, 0, none⟩) n n)
      · rfl
      · exact ⟨_, 0, rfl⟩
      · intro e' w' hD he hJ
        have h5 : e' 5 = some (.slice (some ⟨q, 0, none⟩) 1 1) := hD 5 (by simp)
        obtain ⟨q', hq', hq2, hq3⟩ := hJ.o5 _ h5
        cases hq'
        refine rel_call (by (go_simp; first | rfl | exact ⟨⟨rfl, rfl⟩, rfl⟩)) ?_
        refine (repeat57 n hn1.1 hn1.2 q w' hq3).mono ?_
        rintro e w'' ⟨⟨g', rfl, hg', hgc⟩, hb⟩
        exact ⟨_, rfl, ⟨g', rfl⟩, (hJ.grow hb).put11 he (by rw [h5]; simp) g' (by have := hJ.t.size; omega) hgc⟩
      rintro v ⟨g', rfl⟩
      simp only [Act.put, List.setIfInBounds_toArray, List.set_cons_zero, List.set_cons_succ]
      apply rel_yes (φ := fun x u => u = .agg (nb n (x 11)).toArray)
      · rfl
      · exact ⟨_, rfl⟩
      · intro e' w' hD he hJ
        refine relv_of (by (go_simp; first | rfl | exact ⟨rfl, rfl⟩)) ⟨rfl, ?_⟩
        exact hJ.put12 (.slice (some ⟨g', 0, none⟩) n n) (hD 11 (by simp))
      intro v hv
      obtain rfl : v = .agg #[.slice (some ⟨g', 0, none⟩) n n, i64 0, i64 0, i64 0] := hv
      simp only [Act.put, List.setIfInBounds_toArray, List.set_cons_zero, List.set_cons_succ]
      apply rel_yes (φ := fun _ u => ∃ r, u = .slice (some ⟨r, 0, none⟩) 1 1)
      · rfl
      · exact ⟨_, 0, rfl⟩
      · intro e' w' hD he hJ
        obtain ⟨s, hs, hs2⟩ := hJ.o12 _ (hD 12 (by simp))
        have hs3 : Value.slice (some ⟨g', 0, none⟩) n n = s := by
          have : Value.agg #[.slice (some ⟨g', 0, none⟩) n n, i64 0, i64 0, i64 0] = .agg (nb n s).toArray := hs2
          simp [nb] at this
          exact this
        subst hs3
        refine relv_of (by (go_simp; first | rfl | exact ⟨rfl, rfl⟩)) ⟨⟨_, rfl⟩, ?_⟩
        exact (hJ.grow ((Below.refl _ _).alloc (Nat.le_refl _) _)).put13 he _ hs _ hJ.t.size (Row.new _ _ _)
      rintro v ⟨r, rfl⟩
      simp only [Act.put, List.setIfInBounds_toArray, List.set_cons_zero, List.set_cons_succ]
      apply rel_yes (φ := fun _ u => ∃ gg cap, u = .slice (some ⟨gg, 0, none⟩) (j + 1) cap)
      · rfl
      · exact ⟨_, 0, 0, rfl⟩
      · intro e' w' hD he hJ
        have h13 : e' 13 = some (.slice (some ⟨r, 0, none⟩) 1 1) := hD 13 (by simp)
        obtain ⟨s, hs, r', hr', hr2, hr3⟩ := hJ.o13 _ h13
        cases hr'
        have hbl := hJ.low he
        obtain ⟨i0, hi, hz0, hz1, hz2⟩ := info_parts info96v
        have hown' : w'.ownsRow w.heap.size 96 4 cur j (bs.flatMap fun k => nb n (.slice (some ⟨k, 0, none⟩) n n)) := hown.kept (row := none) ⟨hbl.os, hbl.tape, hbl.output, hbl.size, fun k hk _ => hbl.block k hk⟩ (by cases cur.ownBlock <;> simp)
        obtain ⟨gg, cap, w3, hrun, hown3, hgrow, hat, hltg⟩ := run_append_lies (P := Tryz.prog) w' 91 91 w.heap.size 96 i0 zero96 4 48 Tryz.underlying91 hi hz0 hz1 hz2 rfl (by decide) cur j _ hown' ⟨r, 0, none⟩ 1 1 (nb n s) rfl
          (fun j u hj => by rw [show ((⟨r, 0, none⟩ : Addr).add j) = ⟨r, 0 + j, none⟩ by unfold Addr.add; split <;> simp [*]]; exact (hr3 j u hj).1) (by obtain ⟨_, g2, e2, _⟩ := hJ.o11 _ hs; subst e2; simp [nb, Value.oneCell']) (by decide) (by unfold maxLen; omega) (by omega) (by have := hJ.t.size; omega) w'.heap.size rfl
        refine relv_of (run_builtin_append (.tmp 23) (.tmp 32) 91 rfl rfl rfl hrun) ⟨⟨_, _, rfl⟩, ?_⟩
        exact hJ.put14 he (by rw [h13]; simp) s hs (fun k hk => (hown.lt k hk).2) gg cap hgrow hown3 hat
      rintro v ⟨gg, cap, rfl⟩
      simp only [Act.put, List.setIfInBounds_toArray, List.set_cons_zero, List.set_cons_succ]
      apply rel_nil
      intro w5 hJ
      have far : ∀ k, k ≤ w2.heap.size → ¬ cur.ownBlock = some k := fun k hk he => by have := hcb _ he; omega
      have hrow5 : Row w5 w2.heap.size 0 (newCells g cur) := hrow.turns hJ.t (far _ (Nat.le_refl _))
      obtain ⟨_, g2, e2, hg2, hgc⟩ := hJ.o11 (.slice (some ⟨g', 0, none⟩) n n) rfl
      obtain ⟨_, ⟨s, es, hown5⟩, hob⟩ := hJ.o14 (.slice (some ⟨gg, 0, none⟩) (j + 1) cap) rfl
      have es' : Value.slice (some ⟨g', 0, none⟩) n n = s := Option.some.inj es
      subst es'
      cases e2
      have hgg : w2.heap.size < gg := by
        rcases hob with hob | ⟨q2, hq2, hq3⟩
        · exact hcb gg (by rw [← hob]; rfl)
        · simp [Value.ownBlock] at hq2; omega
      obtain ⟨_, e6', k0', k1', k2', k3', k4'⟩ := (⟨trivial, hk _ _ hJ⟩ : True ∧ _)
      have HOB := Lib.hid hob
      have HT := Lib.hid hJ.t
      have z6 := hJ.t.size
      clear hJ hk es hob
      have f6 : w5.frozen? ⟨w2.heap.size, 6, none⟩ = false := hrow5.free0 6 rfl
      have jw : IntKind.i64.wrap ((j : Int) + 1) = ((j + 1 : Nat) : Int) := by rw [IntWalk.i64_in _ (by omega)]; omega
      have HROW := Lib.hid hrow5
      have HOWN := Lib.hid hown5
      have HGC := Lib.hid hgc
      have HALL := Lib.hid hall
      have HOWN0 := Lib.hid hown
      clear hrow5 hown5 hgc hall hown
      go_wp2
      refine ⟨⟨j + 1, .slice (some ⟨gg, 0, none⟩) (j + 1) cap, bs ++ [g'], ?_, ?_, ?_, ?_, ?_, ?_, ?_, ?_, ?_, ?_, ?_, ?_, ?_, ?_⟩, by simp [RowKit.intOf]; omega⟩
      · omega
      · first | rfl | (congr 1) | (congr 1; omega)
      · refine ext_setCell (by show w.heap.size ≤ w2.heap.size; omega) ?_
        have hT := HT.out
        exact hbr.trans ⟨hT.os, hT.tape, hT.output, hT.size, fun k hk => hT.block k (by omega) (fun he => by have := (HOWN0.out.lt k he).1; omega)⟩
      · simp [hbs]
      · exact (World.cell?_setCell_other _ _ _ _ (by intro e; injection e; omega)).trans k0'
      · exact (World.cell?_setCell_other _ _ _ _ (by intro e; injection e; omega)).trans k1'
      · exact (World.cell?_setCell_other _ _ _ _ (by intro e; injection e; omega)).trans k2'
      · exact (World.cell?_setCell_other _ _ _ _ (by intro e; injection e; omega)).trans k3'
      · exact (World.cell?_setCell_other _ _ _ _ (by intro e; injection e; omega)).trans k4'
      · have := HROW.out.setCell 6 (.slice (some ⟨gg, 0, none⟩) (j + 1) cap)
        simpa using this
      · rw [List.flatMap_append]
        refine HOWN.out.kept (row := some w2.heap.size) ⟨rfl, rfl, rfl, by simp, fun k hk hne => Below.heap_setCell _ _ _ _ (fun he => hne (congrArg some he))⟩ (.inr ?_)
        intro he
        simp [Value.ownBlock] at he
        omega
      · intro bl hbl
        simp [Value.ownBlock] at hbl
        omega
      · rw [List.nodup_append]
        refine ⟨hnd, by simp, fun a ha b hb => ?_⟩
        simp at hb
        have := heap_lt (HALL.out a ha).2.1
        omega
      · intro k hk
        rw [List.mem_append] at hk
        rcases hk with hk | hk
        · obtain ⟨a1, a2, a3⟩ := HALL.out k hk
          have hkl := heap_lt a2
          refine ⟨a1, ?_, ?_⟩
          · rw [Below.heap_setCell _ _ _ _ (by show k ≠ w2.heap.size; omega)]
            exact (HT.out.block k hkl a3).trans a2
          · intro he
            rcases HOB.out with hob | ⟨q2, hq2, hq3⟩
            · exact a3 (by rw [← hob]; exact he)
            · rw [hq2] at he; cases he; omega
        · simp at hk
          subst hk
          refine ⟨by omega, ?_, ?_⟩
          · rw [Below.heap_setCell _ _ _ _ (by show k ≠ w2.heap.size; omega)]
            exact HGC.out
          · intro he
            have he' : gg = k := by simpa [Value.ownBlock] using he
            obtain ⟨_, ⟨h1, _⟩ | ⟨g3, cap3, cur3, hv3, _, hh3, _⟩⟩ := HOWN.out
            · cases h1
            · simp only [Value.slice.injEq, Option.some.injEq, Addr.mk.injEq, and_true, true_and] at hv3
              obtain ⟨rfl, _⟩ := hv3
              rw [he', HGC.out] at hh3
              injection hh3 with hh3
              injection hh3 with _ hh4
              exact absurd hh4 (by decide)
    · have hjb : j = bN := by omega
      have hB2 := HBN.out
      have hB3 := hB1.1
      clear hB1
      subst hjb
      go_wp2_with fail
      go_ret
      refine ⟨?_, hbr⟩
      obtain ⟨bl, bcap, rfl⟩ : ∃ bl bcap, cur = .slice (some ⟨bl, 0, none⟩) j bcap := by
        obtain ⟨_, ⟨h1, h2⟩ | ⟨g3, cap3, cur3, hv3, _⟩⟩ := hown
        · omega
        · exact ⟨g3, cap3, hv3⟩
      refine ⟨⟨w2.heap.size, bl, bs, bcap, none, 0⟩, rfl, ?_, ?_, rfl⟩
      · exact chip_new hg HN.out hB2 hrow hown hbs hnd (by have := hcb bl rfl; omega) (fun k hk => by have := (hall k hk).1; omega) (fun k hk => (hall k hk).2.1)
      · rintro k (rfl | rfl | hk)
        · show w.heap.size ≤ w2.heap.size; omega
        · have hq : w2.heap.size < k := hcb k rfl; omega
        · have := (hall k hk).1; omega
end Go.Proofs.YthghhcnpbehaiaaGreat

/- chip.New of a geometry that may not be. -/
namespace Go.Proofs.YthghhcnpbehaiaaGreat
open Go.RowKit

theorem new14_no (g : Geo) (w : World) (hg : g.okB = false) : Calls Tryz.prog 14 #[.agg #[i64 g.B, i64 g.P, i64 g.Y, i64 g.S, i64 g.T], .slice none 0 0] w fun e w' => e = .returned (.pointer none) ∧ Below w.heap.size w w' := by
  go_enter Tryz.func14, Tryz.ntmps14
  go_wp2_with fail
  refine (planMay55_nil g none 0 _).mono ?_
  rw [hg]
  rintro e w1 ⟨rfl, hb1⟩
  go_wp2_with fail
  go_ret
  exact ⟨rfl, by (repeat (first | exact Below.refl _ _ | assumption | (with_reducible refine Below.drew ?_) | (with_reducible refine below_drewN' ?_ _) | (with_reducible refine ext_alloc ?_ ?_; · (first | omega | (simp only [World.size_alloc, World.size_setCell, World.size_drew, World.heap_drewN]; omega) | (simp; omega))) | (with_reducible refine ext_setCell ?_ ?_; · (first | omega | (simp only [World.size_alloc, World.size_setCell, World.size_drew, World.heap_drewN]; omega) | (simp; omega))) | (refine ext_call (by assumption) ?_ ?_; · (first | omega | (simp only [World.size_alloc, World.size_setCell, World.size_drew, World.heap_drewN]; omega) | (simp; omega)))))⟩
end Go.Proofs.YthghhcnpbehaiaaGreat
