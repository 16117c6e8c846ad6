/- Base words of this seat's proofs: values, what lies in memory, what a call leaves as it was. -/
import Derived.Test.YthghhcnpbehaiaaGreatProg
import Derived.WalkKit
import Derived.WalkSpells
import Derived.WalkLawsBesides
import Derived.Deep.QuietTactic
import Derived.BigQuiet
import Derived.StillTailTactics
import Derived.Deep.RegionHeld3
import Derived.Deep.DeepFit
import Derived.KernelRfl
import Derived.Lib.Hide

namespace Go.Proofs.YthghhcnpbehaiaaGreat
open Go.RowKit

abbrev i64 (n : Int) : Value := .int .i64 n
abbrev u8 (n : Int) : Value := .int .u8 n
abbrev ptr (b : Nat) : Value := .pointer (some ⟨b, 0, none⟩)

theorem below_drewN' {B : Nat} {a w : World} (h : Below B a w) (n : Nat) : Below B a (w.drewN n) := h.trans ⟨rfl, rfl, rfl, Nat.le_refl _, fun _ _ => rfl⟩

theorem bcell {W w1 : World} (hb : Below W.heap.size W w1) : (∀ b o, b < W.heap.size → w1.cell? ⟨b, o, none⟩ = W.cell? ⟨b, o, none⟩) ∧ (∀ b o, b < W.heap.size → w1.frozen? ⟨b, o, none⟩ = W.frozen? ⟨b, o, none⟩) :=
  ⟨fun b o h => hb.cell (p := ⟨b, o, none⟩) h, fun b o h => hb.frozen (p := ⟨b, o, none⟩) h⟩

theorem ext_alloc {B : Nat} {a w : World} {o : Obj} (hB : B ≤ w.heap.size) (h : Below B a w) : Below B a (w.alloc o) := h.alloc hB o
theorem ext_setCell {B : Nat} {a w : World} {p : Addr} {u : Value} (hB : B ≤ p.block) (h : Below B a w) : Below B a (w.setCell p u) := h.setCell hB u
theorem ext_call {B B' : Nat} {a m w : World} (h : Below B' m w) (hB : B ≤ B') (h' : Below B a m) : Below B a w := h'.trans (h.mono hB)

theorem keepc {W w1 : World} (hb : Below W.heap.size W w1) {a : Addr} {v : Value} (h : W.cell? a = some v) : w1.cell? a = some v := (hb.cell (World.block_lt_of_cell? _ _ h)).trans h

theorem keepa {W : World} {a : Addr} {v : Value} {o : Obj} (h : W.cell? a = some v) : (W.alloc o).cell? a = some v := (World.cell?_alloc_lt _ _ _ (World.block_lt_of_cell? _ _ h)).trans h

/-- All but the blocks of M is as it was. -/
structure Turns (M : Nat → Prop) (w w' : World) : Prop where
  os : w'.os = w.os
  tape : w'.tape = w.tape
  output : w'.output = w.output
  size : w.heap.size ≤ w'.heap.size
  block : ∀ k, k < w.heap.size → ¬ M k → w'.heap[k]? = w.heap[k]?

namespace Turns
variable {M M' : Nat → Prop} {a b c : World}
theorem refl (M : Nat → Prop) (w : World) : Turns M w w := ⟨rfl, rfl, rfl, Nat.le_refl _, fun _ _ _ => rfl⟩
theorem trans (h : Turns M a b) (k : Turns M b c) : Turns M a c :=
  ⟨k.os.trans h.os, k.tape.trans h.tape, k.output.trans h.output, Nat.le_trans h.size k.size, fun i hi hm => (k.block i (Nat.lt_of_lt_of_le hi h.size) hm).trans (h.block i hi hm)⟩
theorem mono (h : Turns M a b) (hm : ∀ k, k < a.heap.size → M k → M' k) : Turns M' a b := ⟨h.os, h.tape, h.output, h.size, fun k hk hn => h.block k hk (fun m => hn (hm k hk m))⟩
theorem of_below (h : Below a.heap.size a b) : Turns M a b := ⟨h.os, h.tape, h.output, h.size, fun k hk _ => h.block k hk⟩
theorem below (h : Turns M a b) (hm : ∀ k, k < a.heap.size → ¬ M k) : Below a.heap.size a b := ⟨h.os, h.tape, h.output, h.size, fun k hk => h.block k hk (hm k hk)⟩
theorem drewN (h : Turns M a b) (n : Nat) : Turns M a (b.drewN n) := h.trans ⟨rfl, rfl, rfl, Nat.le_refl _, fun _ _ _ => rfl⟩
theorem drew (h : Turns M a b) : Turns M a b.drew := h.trans ⟨rfl, rfl, rfl, Nat.le_refl _, fun _ _ _ => rfl⟩
theorem alloc (h : Turns M a b) (o : Obj) : Turns M a (b.alloc o) :=
  h.trans ⟨rfl, rfl, rfl, by simp, fun k hk _ => Below.heap_alloc _ _ _ hk⟩
theorem setCell (h : Turns M a b) {p : Addr} (hp : M p.block ∨ a.heap.size ≤ p.block) (u : Value) : Turns M a (b.setCell p u) :=
  ⟨h.os, h.tape, h.output, by simpa using h.size, fun k hk hm => (Below.heap_setCell _ _ _ _ (by rcases hp with hp | hp; (intro e; subst e; exact hm hp); omega)).trans (h.block k hk hm)⟩
theorem cell (h : Turns M a b) {p : Addr} (hp : p.block < a.heap.size) (hm : ¬ M p.block) : b.cell? p = a.cell? p := World.cell?_of_block (h.block _ hp hm)
theorem frozen (h : Turns M a b) {p : Addr} (hp : p.block < a.heap.size) (hm : ¬ M p.block) : b.frozen? p = a.frozen? p := World.frozen?_of_block (h.block _ hp hm)
end Turns

/-- From place off on block b holds the cells cs, and may be written there. -/
def Row (w : World) (b off : Nat) (cs : List Value) : Prop := ∀ i v, cs[i]? = some v → w.cell? ⟨b, off + i, none⟩ = some v ∧ w.frozen? ⟨b, off + i, none⟩ = false

namespace Row
variable {w w' : World} {b off : Nat} {cs : List Value}
theorem cell (h : Row w b off cs) (i : Nat) {v : Value} (e : cs[i]? = some v) : w.cell? ⟨b, off + i, none⟩ = some v := (h i v e).1
theorem free (h : Row w b off cs) (i : Nat) {v : Value} (e : cs[i]? = some v) : w.frozen? ⟨b, off + i, none⟩ = false := (h i v e).2
theorem cell0 (h : Row w b 0 cs) (i : Nat) {v : Value} (e : cs[i]? = some v) : w.cell? ⟨b, i, none⟩ = some v := by have := (h i v e).1; rwa [Nat.zero_add] at this
theorem free0 (h : Row w b 0 cs) (i : Nat) {v : Value} (e : cs[i]? = some v) : w.frozen? ⟨b, i, none⟩ = false := by have := (h i v e).2; rwa [Nat.zero_add] at this
theorem lt (h : Row w b off cs) (hne : cs ≠ []) : b < w.heap.size := by
  cases cs with
  | nil => exact absurd rfl hne
  | cons v r => exact World.block_lt_of_cell? _ _ (h 0 v rfl).1
theorem of_block (h : Row w b off cs) (e : w'.heap[b]? = w.heap[b]?) : Row w' b off cs := fun i v hi =>
  ⟨(World.cell?_of_block (a := ⟨b, off + i, none⟩) e).trans (h i v hi).1, (World.frozen?_of_block (a := ⟨b, off + i, none⟩) e).trans (h i v hi).2⟩
theorem nil : Row w b off [] := fun i v h => by simp at h
theorem below (h : Row w b off cs) (hb : Below w.heap.size w w') : Row w' b off cs := by
  by_cases hne : cs = []
  · subst hne; exact nil
  · exact h.of_block (hb.block _ (h.lt hne))
theorem turns {M : Nat → Prop} (h : Row w b off cs) (hb : Turns M w w') (hm : ¬ M b) : Row w' b off cs := by
  by_cases hne : cs = []
  · subst hne; exact nil
  · exact h.of_block (hb.block _ (h.lt hne) hm)
theorem drewN (h : Row w b off cs) (n : Nat) : Row (w.drewN n) b off cs := h
theorem drew (h : Row w b off cs) : Row w.drew b off cs := h
theorem alloc (h : Row w b off cs) (o : Obj) : Row (w.alloc o) b off cs := h.below ((Below.refl _ _).alloc (Nat.le_refl _) o)
theorem setCell_ne (h : Row w b off cs) {p : Addr} (hp : p.block ≠ b) (u : Value) : Row (w.setCell p u) b off cs := h.of_block (Below.heap_setCell _ _ _ _ (by omega))
theorem setCell_off (h : Row w b off cs) {o : Nat} (hp : o < off ∨ off + cs.length ≤ o) (u : Value) : Row (w.setCell ⟨b, o, none⟩ u) b off cs := fun i v hi => by
  have hl : i < cs.length := (List.getElem?_eq_some_iff.1 hi).1
  refine ⟨?_, by rw [World.frozen?_setCell]; exact (h i v hi).2⟩
  rw [World.cell?_setCell_other _ _ _ _ (by intro e; injection e; omega)]
  exact (h i v hi).1
theorem setCell (h : Row w b off cs) (i : Nat) (u : Value) : Row (w.setCell ⟨b, off + i, none⟩ u) b off (cs.set i u) := fun j v hj => by
  have hl : j < cs.length := by have := (List.getElem?_eq_some_iff.1 hj).1; simpa using this
  have hj0 := h j cs[j] (List.getElem?_eq_getElem hl)
  refine ⟨?_, by rw [World.frozen?_setCell]; exact hj0.2⟩
  by_cases e : i = j
  · subst e
    rw [World.cell?_setCell_same _ _ _ hj0.1]
    rw [List.getElem?_set_self hl] at hj
    exact hj
  · rw [World.cell?_setCell_other _ _ _ _ (by intro e'; injection e'; omega)]
    rw [List.getElem?_set_ne e] at hj
    exact (h j v hj).1
theorem new (w : World) (c : Array Value) (t : TypeId) : Row (w.alloc (.cells c t)) w.heap.size 0 c.toList := fun i v hi => by
  rw [Nat.zero_add]
  refine ⟨?_, World.frozen?_alloc_new w c t i⟩
  rw [World.cell?_alloc_new]
  simpa using hi
theorem sub {n : Nat} {ds : List Value} (h : Row w b off cs) (e : ∀ (i : Nat) (v : Value), ds[i]? = some v → cs[n + i]? = some v) : Row w b (off + n) ds := fun i v hi => by
  have := h (n + i) v (e i v hi)
  rw [Nat.add_assoc]
  exact this
theorem pre {ds : List Value} (h : Row w b off cs) (e : ∀ (i : Nat) (v : Value), ds[i]? = some v → cs[i]? = some v) : Row w b off ds := fun i v hi => h i v (e i v hi)
end Row

theorem row_of_heap {w : World} {b : Nat} {cs : List Value} {t : TypeId} (h : w.heap[b]? = some (.cells cs.toArray t (0, 0))) : Row w b 0 cs := fun i v hi => by
  rw [Nat.zero_add]
  refine ⟨?_, by simp [World.frozen?, h]⟩
  simp only [World.cell?, h, Option.isSome_none, Bool.false_eq_true, if_false]
  simpa using hi
theorem heap_lt {w : World} {b : Nat} {o : Obj} (h : w.heap[b]? = some o) : b < w.heap.size := (Array.getElem?_eq_some_iff.1 h).1

/-- A slice of n elements whose cells are cs. -/
def SlAt (w : World) (v : Value) (n : Nat) (cs : List Value) : Prop := ∃ a cap, v = .slice a n cap ∧ n ≤ cap ∧ (cs = [] ∨ ∃ b off, a = some ⟨b, off, none⟩ ∧ Row w b off cs)

namespace SlAt
variable {w w' : World} {v : Value} {n : Nat} {cs : List Value}
theorem below (h : SlAt w v n cs) (hb : Below w.heap.size w w') : SlAt w' v n cs := by
  obtain ⟨a, cap, hv, hc, h | ⟨b, off, ha, hr⟩⟩ := h
  · exact ⟨a, cap, hv, hc, .inl h⟩
  · exact ⟨a, cap, hv, hc, .inr ⟨b, off, ha, hr.below hb⟩⟩
end SlAt
end Go.Proofs.YthghhcnpbehaiaaGreat

/- What geom's and jotterref5's functions answer. -/
namespace Go.Proofs.YthghhcnpbehaiaaGreat
open Go.RowKit

def inB (n lo hi : Int) : Bool := decide (lo ≤ n) && decide (n ≤ hi)
theorem inB_iff {n lo hi : Int} : inB n lo hi = true ↔ lo ≤ n ∧ n ≤ hi := by simp [inB]
theorem inB_no {n lo hi : Int} : inB n lo hi = false ↔ ¬ (lo ≤ n ∧ n ≤ hi) := by rw [← inB_iff]; simp

theorem in_any (n lo hi : Int) (w : World) :
    Calls Tryz.prog 138 #[i64 n, i64 lo, i64 hi] w fun e w' => e = .returned (.bool (inB n lo hi)) ∧ w = w' := by
  go_enter Tryz.func138, Tryz.ntmps138
  by_cases h1 : lo ≤ n
  · go_wp2
    go_ret
    exact ⟨by simp [inB, h1], rfl⟩
  · go_wp2
    go_ret
    refine ⟨?_, rfl⟩
    have e : inB n lo hi = false := by rw [inB_no]; omega
    rw [e]; rfl

theorem in76_any (n lo hi : Int) (w : World) :
    Calls Tryz.prog 76 #[i64 n, i64 lo, i64 hi] w fun e w' => e = .returned (.bool (inB n lo hi)) ∧ w = w' := by
  go_enter Tryz.func76, Tryz.ntmps76
  by_cases h1 : lo ≤ n
  · go_wp2
    go_ret
    exact ⟨by simp [inB, h1], rfl⟩
  · go_wp2
    go_ret
    refine ⟨?_, rfl⟩
    have e : inB n lo hi = false := by rw [inB_no]; omega
    rw [e]; rfl

theorem in175_any (n lo hi : Int) (w : World) :
    Calls Tryz.prog 175 #[i64 n, i64 lo, i64 hi] w fun e w' => e = .returned (.bool (inB n lo hi)) ∧ w = w' := by
  go_enter Tryz.func175, Tryz.ntmps175
  by_cases h1 : lo ≤ n
  · go_wp2
    go_ret
    exact ⟨by simp [inB, h1], rfl⟩
  · go_wp2
    go_ret
    refine ⟨?_, rfl⟩
    have e : inB n lo hi = false := by rw [inB_no]; omega
    rw [e]; rfl

/-- A geometry. -/
structure Geo where
  (B P Y S T : Int)
abbrev Geo.cells (g : Geo) : List Value := [i64 g.B, i64 g.P, i64 g.Y, i64 g.S, i64 g.T]
abbrev Geo.v (g : Geo) : Value := .agg #[i64 g.B, i64 g.P, i64 g.Y, i64 g.S, i64 g.T]
def Geo.half (g : Geo) : Int := ((g.B - g.S - 3) * g.P - 4) / 2
def Geo.okB (g : Geo) : Bool := inB g.B 8 20 && inB g.P 4 8 && inB g.Y 24 64 && inB g.S 0 4 && inB g.T 2 20 && decide (4 ≤ g.half)

/-- What a geometry that may be says of its numbers. -/
structure Geo.Ok (g : Geo) : Prop where
  b1 : 8 ≤ g.B
  b2 : g.B ≤ 20
  p1 : 4 ≤ g.P
  p2 : g.P ≤ 8
  y1 : 24 ≤ g.Y
  y2 : g.Y ≤ 64
  s1 : 0 ≤ g.S
  s2 : g.S ≤ 4
  t1 : 2 ≤ g.T
  t2 : g.T ≤ 20
  h1 : 4 ≤ g.half

theorem Geo.ok_iff (g : Geo) : g.okB = true ↔ g.Ok := by
  simp only [Geo.okB, Bool.and_eq_true, inB_iff, decide_eq_true_eq]
  constructor
  · rintro ⟨⟨⟨⟨⟨⟨a, b⟩, c, d⟩, e, f⟩, g, h⟩, i, j⟩, k⟩; exact ⟨a, b, c, d, e, f, g, h, i, j, k⟩
  · rintro ⟨a, b, c, d, e, f, g, h, i, j, k⟩; exact ⟨⟨⟨⟨⟨⟨a, b⟩, c, d⟩, e, f⟩, g, h⟩, i, j⟩, k⟩

theorem half_arith {x : Int} (h0 : 0 ≤ x - 4) (h : x ≤ 136) : wrap64 ((wrap64 (wrap64 x - 4)).tdiv 2) = (x - 4) / 2 := by
  have e1 : wrap64 x = x := by unfold wrap64; omega
  have e2 : wrap64 (x - 4) = x - 4 := by unfold wrap64; omega
  rw [e1, e2, Int.tdiv_eq_ediv_of_nonneg h0]
  unfold wrap64; omega
theorem half_bounds {b p s : Int} (b1 : 8 ≤ b) (b2 : b ≤ 20) (p1 : 4 ≤ p) (p2 : p ≤ 8) (s1 : 0 ≤ s) (s2 : s ≤ 4) : 0 ≤ (b - s - 3) * p - 4 ∧ (b - s - 3) * p ≤ 136 := by
  have m1 : 1 * 4 ≤ (b - s - 3) * p := Int.mul_le_mul (by omega) (by omega) (by omega) (by omega)
  have m2 : (b - s - 3) * p ≤ 17 * 8 := Int.mul_le_mul (by omega) (by omega) (by omega) (by omega)
  omega
theorem ret_i64 {a b : Int} (h : a = b) : Ending.returned (.int .i64 a) = .returned (.int .i64 b) := by rw [h]

set_option maxHeartbeats 400000 in
theorem half_any (g : Geo) (w : World) (hB : inB g.B 8 20 = true) (hP : inB g.P 4 8 = true) (hS : inB g.S 0 4 = true) :
    Calls Tryz.prog 125 #[.agg #[i64 g.B, i64 g.P, i64 g.Y, i64 g.S, i64 g.T]] w fun e w' => e = .returned (i64 g.half) ∧ Below w.heap.size w w' := by
  rw [inB_iff] at hB hP hS
  obtain ⟨b1, b2⟩ := hB
  obtain ⟨p1, p2⟩ := hP
  obtain ⟨s1, s2⟩ := hS
  have hm := half_bounds b1 b2 p1 p2 s1 s2
  have H := Lib.hid hm; clear hm
  go_enter Tryz.func125, Tryz.ntmps125
  go_wp2
  go_ret
  refine ⟨ret_i64 (half_arith H.out.1 H.out.2), ?_⟩
  (repeat (first | exact Below.refl _ _ | assumption | (with_reducible refine Below.drew ?_) | (with_reducible refine below_drewN' ?_ _) | (with_reducible refine ext_alloc ?_ ?_; · (first | omega | (simp only [World.size_alloc, World.size_setCell, World.size_drew, World.heap_drewN]; omega) | (simp; omega))) | (with_reducible refine ext_setCell ?_ ?_; · (first | omega | (simp only [World.size_alloc, World.size_setCell, World.size_drew, World.heap_drewN]; omega) | (simp; omega))) | (refine ext_call (by assumption) ?_ ?_; · (first | omega | (simp only [World.size_alloc, World.size_setCell, World.size_drew, World.heap_drewN]; omega) | (simp; omega)))))

set_option maxHeartbeats 400000 in
theorem may_any (g : Geo) (w : World) :
    Calls Tryz.prog 98 #[.agg #[i64 g.B, i64 g.P, i64 g.Y, i64 g.S, i64 g.T]] w fun e w' => e = .returned (.bool g.okB) ∧ Below w.heap.size w w' := by
  go_enter Tryz.func98, Tryz.ntmps98
  go_wp2_with (first
   | (go_at_call 138; refine (in_any _ _ _ _).mono ?_; rintro e w' ⟨rfl, rfl⟩)
   | (go_at_call 125; refine (half_any g _ (by assumption) (by assumption) (by assumption)).mono ?_; rintro e w' ⟨rfl, hb⟩; have hz := hb.size; (try simp only [World.size_alloc, World.size_setCell, World.size_drew, World.heap_drewN] at hz); (try have hz0 : w.heap.size < w'.heap.size := by omega); (try have hz1 : w.heap.size + 1 < w'.heap.size := by omega); (try have hz2 : w.heap.size + 2 < w'.heap.size := by omega); (try have hz3 : w.heap.size + 3 < w'.heap.size := by omega)))
  all_goals
    go_ret
    refine ⟨?_, ?_⟩
    · simp only [Geo.okB, *]; rfl
    · (repeat (first | exact Below.refl _ _ | assumption | (with_reducible refine Below.drew ?_) | (with_reducible refine below_drewN' ?_ _) | (with_reducible refine ext_alloc ?_ ?_; · (first | omega | (simp only [World.size_alloc, World.size_setCell, World.size_drew, World.heap_drewN]; omega) | (simp; omega))) | (with_reducible refine ext_setCell ?_ ?_; · (first | omega | (simp only [World.size_alloc, World.size_setCell, World.size_drew, World.heap_drewN]; omega) | (simp; omega))) | (refine ext_call (by assumption) ?_ ?_; · (first | omega | (simp only [World.size_alloc, World.size_setCell, World.size_drew, World.heap_drewN]; omega) | (simp; omega)))))

/-- jotterref5's half, of numbers within bounds. -/
theorem half68_any (g : Geo) (w : World) (hB : inB g.B 8 20 = true) (hP : inB g.P 4 8 = true) (hS : inB g.S 0 4 = true) :
    Calls Tryz.prog 68 #[.agg #[i64 g.B, i64 g.P, i64 g.Y, i64 g.S, i64 g.T]] w fun e w' => e = .returned (i64 g.half) ∧ Below w.heap.size w w' := by
  rw [inB_iff] at hB hP hS
  obtain ⟨b1, b2⟩ := hB
  obtain ⟨p1, p2⟩ := hP
  obtain ⟨s1, s2⟩ := hS
  have hm := half_bounds b1 b2 p1 p2 s1 s2
  obtain ⟨x, hx⟩ : ∃ x, x = (g.B - g.S - 3) * g.P := ⟨_, rfl⟩
  have hh : g.half = (x - 4) / 2 := by rw [hx]; rfl
  rw [← hx] at hm
  obtain ⟨m1, m2⟩ := hm
  have H := Lib.hid hx; clear hx
  have H2 := Lib.hid hh; clear hh
  have e1 : wrap64 ((g.B - g.S - 3) * g.P) = x := by rw [← H.out]; unfold wrap64; omega
  go_enter Tryz.func68, Tryz.ntmps68
  go_wp2
  go_ret
  exact ⟨ret_i64 H2.out.symm, by (repeat (first | exact Below.refl _ _ | assumption | (with_reducible refine Below.drew ?_) | (with_reducible refine below_drewN' ?_ _) | (with_reducible refine ext_alloc ?_ ?_; · (first | omega | (simp only [World.size_alloc, World.size_setCell, World.size_drew, World.heap_drewN]; omega) | (simp; omega))) | (with_reducible refine ext_setCell ?_ ?_; · (first | omega | (simp only [World.size_alloc, World.size_setCell, World.size_drew, World.heap_drewN]; omega) | (simp; omega))) | (refine ext_call (by assumption) ?_ ?_; · (first | omega | (simp only [World.size_alloc, World.size_setCell, World.size_drew, World.heap_drewN]; omega) | (simp; omega)))))⟩

set_option maxHeartbeats 400000 in
theorem may25_any (g : Geo) (w : World) :
    Calls Tryz.prog 25 #[.agg #[i64 g.B, i64 g.P, i64 g.Y, i64 g.S, i64 g.T]] w fun e w' => e = .returned (.bool g.okB) ∧ Below w.heap.size w w' := by
  go_enter Tryz.func25, Tryz.ntmps25
  go_wp2_with (first
   | (go_at_call 76; refine (in76_any _ _ _ _).mono ?_; rintro e w' ⟨rfl, rfl⟩)
   | (go_at_call 68; refine (half68_any g _ (by assumption) (by assumption) (by assumption)).mono ?_; rintro e w' ⟨rfl, hb⟩; have hz := hb.size; (try simp only [World.size_alloc, World.size_setCell, World.size_drew, World.heap_drewN] at hz); (try have hz0 : w.heap.size < w'.heap.size := by omega); (try have hz1 : w.heap.size + 1 < w'.heap.size := by omega); (try have hz2 : w.heap.size + 2 < w'.heap.size := by omega); (try have hz3 : w.heap.size + 3 < w'.heap.size := by omega)))
  all_goals
    go_ret
    refine ⟨?_, ?_⟩
    · simp only [Geo.okB, *]; rfl
    · (repeat (first | exact Below.refl _ _ | assumption | (with_reducible refine Below.drew ?_) | (with_reducible refine below_drewN' ?_ _) | (with_reducible refine ext_alloc ?_ ?_; · (first | omega | (simp only [World.size_alloc, World.size_setCell, World.size_drew, World.heap_drewN]; omega) | (simp; omega))) | (with_reducible refine ext_setCell ?_ ?_; · (first | omega | (simp only [World.size_alloc, World.size_setCell, World.size_drew, World.heap_drewN]; omega) | (simp; omega))) | (refine ext_call (by assumption) ?_ ?_; · (first | omega | (simp only [World.size_alloc, World.size_setCell, World.size_drew, World.heap_drewN]; omega) | (simp; omega)))))

def Geo.logical (g : Geo) : Int := if g.okB then g.half else 0

theorem logical75 (g : Geo) (w : World) : Calls Tryz.prog 75 #[.agg #[i64 g.B, i64 g.P, i64 g.Y, i64 g.S, i64 g.T]] w fun e w' => e = .returned (i64 g.logical) ∧ Below w.heap.size w w' := by
  by_cases h : g.okB = true
  · have hs : inB g.B 8 20 = true ∧ inB g.P 4 8 = true ∧ inB g.S 0 4 = true := by simp [Geo.okB] at h; simp [h]
    have hl : g.logical = g.half := by simp [Geo.logical, h]
    have H := Lib.hid hl; clear hl
    obtain ⟨h1, h2, h3⟩ := hs
    go_enter Tryz.func75, Tryz.ntmps75
    go_wp2_with (first
     | (go_at_call 98; refine (may_any g _).mono ?_; rintro e w' ⟨rfl, hb⟩; have hz := hb.size; (try simp only [World.size_alloc, World.size_setCell, World.size_drew, World.heap_drewN] at hz); (try have hz0 : w.heap.size < w'.heap.size := by omega); (try have hz1 : w.heap.size + 1 < w'.heap.size := by omega); (try have hz2 : w.heap.size + 2 < w'.heap.size := by omega); (try have hz3 : w.heap.size + 3 < w'.heap.size := by omega); obtain ⟨hc, hf⟩ := bcell hb)
     | (go_at_call 125; refine (half_any g _ (by assumption) (by assumption) (by assumption)).mono ?_; rintro e w' ⟨rfl, hb⟩; have hz := hb.size; (try simp only [World.size_alloc, World.size_setCell, World.size_drew, World.heap_drewN] at hz); (try have hz0 : w.heap.size < w'.heap.size := by omega); (try have hz1 : w.heap.size + 1 < w'.heap.size := by omega); (try have hz2 : w.heap.size + 2 < w'.heap.size := by omega); (try have hz3 : w.heap.size + 3 < w'.heap.size := by omega)))
    go_ret
    refine ⟨by rw [H.out]; rfl, ?_⟩
    (repeat (first | exact Below.refl _ _ | assumption | (with_reducible refine Below.drew ?_) | (with_reducible refine below_drewN' ?_ _) | (with_reducible refine ext_alloc ?_ ?_; · (first | omega | (simp only [World.size_alloc, World.size_setCell, World.size_drew, World.heap_drewN]; omega) | (simp; omega))) | (with_reducible refine ext_setCell ?_ ?_; · (first | omega | (simp only [World.size_alloc, World.size_setCell, World.size_drew, World.heap_drewN]; omega) | (simp; omega))) | (refine ext_call (by assumption) ?_ ?_; · (first | omega | (simp only [World.size_alloc, World.size_setCell, World.size_drew, World.heap_drewN]; omega) | (simp; omega)))))
  · have hl : g.logical = 0 := by simp [Geo.logical, h]
    have H := Lib.hid hl; clear hl
    have h' : g.okB = false := by simpa using h
    go_enter Tryz.func75, Tryz.ntmps75
    go_wp2_with (first
     | (go_at_call 98; refine (may_any g _).mono ?_; rintro e w' ⟨rfl, hb⟩; have hz := hb.size; (try simp only [World.size_alloc, World.size_setCell, World.size_drew, World.heap_drewN] at hz); (try have hz0 : w.heap.size < w'.heap.size := by omega); (try have hz1 : w.heap.size + 1 < w'.heap.size := by omega); (try have hz2 : w.heap.size + 2 < w'.heap.size := by omega); (try have hz3 : w.heap.size + 3 < w'.heap.size := by omega); obtain ⟨hc, hf⟩ := bcell hb))
    go_ret
    refine ⟨by rw [H.out]; rfl, ?_⟩
    (repeat (first | exact Below.refl _ _ | assumption | (with_reducible refine Below.drew ?_) | (with_reducible refine below_drewN' ?_ _) | (with_reducible refine ext_alloc ?_ ?_; · (first | omega | (simp only [World.size_alloc, World.size_setCell, World.size_drew, World.heap_drewN]; omega) | (simp; omega))) | (with_reducible refine ext_setCell ?_ ?_; · (first | omega | (simp only [World.size_alloc, World.size_setCell, World.size_drew, World.heap_drewN]; omega) | (simp; omega))) | (refine ext_call (by assumption) ?_ ?_; · (first | omega | (simp only [World.size_alloc, World.size_setCell, World.size_drew, World.heap_drewN]; omega) | (simp; omega)))))

theorem when101 (g : Geo) (n : Int) (w : World) (h : g.okB = true) : Calls Tryz.prog 101 #[.agg #[i64 g.B, i64 g.P, i64 g.Y, i64 g.S, i64 g.T], i64 n] w fun e w' => e = .returned (i64 n) ∧ Below w.heap.size w w' := by
  go_enter Tryz.func101, Tryz.ntmps101
  go_wp2_with (first
   | (go_at_call 98; refine (may_any g _).mono ?_; rintro e w' ⟨rfl, hb⟩; have hz := hb.size; (try simp only [World.size_alloc, World.size_setCell, World.size_drew, World.heap_drewN] at hz); (try have hz0 : w.heap.size < w'.heap.size := by omega); (try have hz1 : w.heap.size + 1 < w'.heap.size := by omega); (try have hz2 : w.heap.size + 2 < w'.heap.size := by omega); (try have hz3 : w.heap.size + 3 < w'.heap.size := by omega); obtain ⟨hc, hf⟩ := bcell hb))
  go_ret
  refine ⟨rfl, ?_⟩
  (repeat (first | exact Below.refl _ _ | assumption | (with_reducible refine Below.drew ?_) | (with_reducible refine below_drewN' ?_ _) | (with_reducible refine ext_alloc ?_ ?_; · (first | omega | (simp only [World.size_alloc, World.size_setCell, World.size_drew, World.heap_drewN]; omega) | (simp; omega))) | (with_reducible refine ext_setCell ?_ ?_; · (first | omega | (simp only [World.size_alloc, World.size_setCell, World.size_drew, World.heap_drewN]; omega) | (simp; omega))) | (refine ext_call (by assumption) ?_ ?_; · (first | omega | (simp only [World.size_alloc, World.size_setCell, World.size_drew, World.heap_drewN]; omega) | (simp; omega)))))

theorem raw58 (g : Geo) (w : World) (h : g.okB = true) : Calls Tryz.prog 58 #[.agg #[i64 g.B, i64 g.P, i64 g.Y, i64 g.S, i64 g.T]] w fun e w' => e = .returned (i64 (g.Y + 16)) ∧ Below w.heap.size w w' := by
  have hy : 24 ≤ g.Y ∧ g.Y ≤ 64 := by rw [Geo.ok_iff] at h; exact ⟨h.y1, h.y2⟩
  obtain ⟨y1, y2⟩ := hy
  go_enter Tryz.func58, Tryz.ntmps58
  go_wp2
  go_region_held3 (fun w' => w'.cell? ⟨w.heap.size, 0, none⟩ = some (i64 g.B) ∧ w'.cell? ⟨w.heap.size, 1, none⟩ = some (i64 g.P) ∧ w'.cell? ⟨w.heap.size, 2, none⟩ = some (i64 g.Y) ∧ w'.cell? ⟨w.heap.size, 3, none⟩ = some (i64 g.S) ∧ w'.cell? ⟨w.heap.size, 4, none⟩ = some (i64 g.T) ∧ Below w.heap.size w w')
    ((first | ((try simp); (repeat (first | exact Below.refl _ _ | assumption | (with_reducible refine Below.drew ?_) | (with_reducible refine below_drewN' ?_ _) | (with_reducible refine ext_alloc ?_ ?_; · (first | omega | (simp only [World.size_alloc, World.size_setCell, World.size_drew, World.heap_drewN]; omega) | (simp; omega))) | (with_reducible refine ext_setCell ?_ ?_; · (first | omega | (simp only [World.size_alloc, World.size_setCell, World.size_drew, World.heap_drewN]; omega) | (simp; omega))) | (refine ext_call (by assumption) ?_ ?_; · (first | omega | (simp only [World.size_alloc, World.size_setCell, World.size_drew, World.heap_drewN]; omega) | (simp; omega))))); done) | ((try dsimp only); (repeat' apply And.intro); (all_goals (first | ((try simp); (repeat (first | exact Below.refl _ _ | assumption | (with_reducible refine Below.drew ?_) | (with_reducible refine below_drewN' ?_ _) | (with_reducible refine ext_alloc ?_ ?_; · (first | omega | (simp only [World.size_alloc, World.size_setCell, World.size_drew, World.heap_drewN]; omega) | (simp; omega))) | (with_reducible refine ext_setCell ?_ ?_; · (first | omega | (simp only [World.size_alloc, World.size_setCell, World.size_drew, World.heap_drewN]; omega) | (simp; omega))) | (refine ext_call (by assumption) ?_ ?_; · (first | omega | (simp only [World.size_alloc, World.size_setCell, World.size_drew, World.heap_drewN]; omega) | (simp; omega))))); done) | ((repeat (first | exact Below.refl _ _ | assumption | (with_reducible refine Below.drew ?_) | (with_reducible refine below_drewN' ?_ _) | (with_reducible refine ext_alloc ?_ ?_; · (first | omega | (simp only [World.size_alloc, World.size_setCell, World.size_drew, World.heap_drewN]; omega) | (simp; omega))) | (with_reducible refine ext_setCell ?_ ?_; · (first | omega | (simp only [World.size_alloc, World.size_setCell, World.size_drew, World.heap_drewN]; omega) | (simp; omega))) | (refine ext_call (by assumption) ?_ ?_; · (first | omega | (simp only [World.size_alloc, World.size_setCell, World.size_drew, World.heap_drewN]; omega) | (simp; omega))))); done) | go_keep))) | (rename_i hS K hK; obtain ⟨s1, s2, s3, s4, s5, s6⟩ := hS; first | (exact ⟨keepc hb s1, keepc hb s2, keepc hb s3, keepc hb s4, keepc hb s5, s6.trans (hb.mono s6.size)⟩) | (refine ⟨keepa s1, keepa s2, keepa s3, keepa s4, keepa s5, ?_⟩; (repeat (first | exact Below.refl _ _ | assumption | (with_reducible refine Below.drew ?_) | (with_reducible refine below_drewN' ?_ _) | (with_reducible refine ext_alloc ?_ ?_; · (first | omega | (simp only [World.size_alloc, World.size_setCell, World.size_drew, World.heap_drewN]; omega) | (simp; omega))) | (with_reducible refine ext_setCell ?_ ?_; · (first | omega | (simp only [World.size_alloc, World.size_setCell, World.size_drew, World.heap_drewN]; omega) | (simp; omega))) | (refine ext_call (by assumption) ?_ ?_; · (first | omega | (simp only [World.size_alloc, World.size_setCell, World.size_drew, World.heap_drewN]; omega) | (simp; omega))))); done) | (refine ⟨?_, ?_, ?_, ?_, ?_, ?_⟩; (all_goals first | ((repeat (first | exact Below.refl _ _ | assumption | (with_reducible refine Below.drew ?_) | (with_reducible refine below_drewN' ?_ _) | (with_reducible refine ext_alloc ?_ ?_; · (first | omega | (simp only [World.size_alloc, World.size_setCell, World.size_drew, World.heap_drewN]; omega) | (simp; omega))) | (with_reducible refine ext_setCell ?_ ?_; · (first | omega | (simp only [World.size_alloc, World.size_setCell, World.size_drew, World.heap_drewN]; omega) | (simp; omega))) | (refine ext_call (by assumption) ?_ ?_; · (first | omega | (simp only [World.size_alloc, World.size_setCell, World.size_drew, World.heap_drewN]; omega) | (simp; omega))))); done) | ((repeat rw [World.cell?_setCell_other _ _ _ _ (by intro e; injection e; omega)]); assumption))))))
    (first | (go_at_call 101; refine (when101 g _ _ h).mono ?_; rintro e w' ⟨rfl, hb⟩))
  rename_i hS
  go_wp2
  go_ret
  refine ⟨ret_i64 ?_, hS.2.2.2.2.2⟩
  exact IntWalk.i64_in _ (by omega)

/-- A place. -/
structure Plc where
  (b p : Int)
  deriving DecidableEq
abbrev Plc.v (p : Plc) : Value := .agg #[i64 p.b, i64 p.p]
/-- Is there such a place? -/
def Geo.isB (g : Geo) (p : Plc) : Bool := inB p.b 0 (g.B - 1) && inB p.p 0 (g.P - 1)
def Geo.num (g : Geo) (p : Plc) : Int := p.b * g.P + p.p

theorem is143 (g : Geo) (p : Plc) (w : World) (h : g.okB = true) : Calls Tryz.prog 143 #[.agg #[i64 g.B, i64 g.P, i64 g.Y, i64 g.S, i64 g.T], .agg #[i64 p.b, i64 p.p]] w fun e w' => e = .returned (.bool (g.isB p)) ∧ Below w.heap.size w w' := by
  have ho := (Geo.ok_iff g).1 h
  obtain ⟨b1, b2, p1, p2, _, _, _, _, _, _, _⟩ := ho
  go_enter Tryz.func143, Tryz.ntmps143
  go_wp2_with (first | (go_at_call 98; refine (may_any g _).mono ?_; rintro e w' ⟨rfl, hb⟩; have hz := hb.size; (try simp only [World.size_alloc, World.size_setCell, World.size_drew, World.heap_drewN] at hz); (try have hz0 : w.heap.size < w'.heap.size := by omega); (try have hz1 : w.heap.size + 1 < w'.heap.size := by omega); (try have hz2 : w.heap.size + 2 < w'.heap.size := by omega); (try have hz3 : w.heap.size + 3 < w'.heap.size := by omega); obtain ⟨hc, hf⟩ := bcell hb) | (go_at_call 138; refine (in_any _ _ _ _).mono ?_; rintro e w' ⟨rfl, rfl⟩))
  all_goals
    go_ret
    refine ⟨?_, by (repeat (first | exact Below.refl _ _ | assumption | (with_reducible refine Below.drew ?_) | (with_reducible refine below_drewN' ?_ _) | (with_reducible refine ext_alloc ?_ ?_; · (first | omega | (simp only [World.size_alloc, World.size_setCell, World.size_drew, World.heap_drewN]; omega) | (simp; omega))) | (with_reducible refine ext_setCell ?_ ?_; · (first | omega | (simp only [World.size_alloc, World.size_setCell, World.size_drew, World.heap_drewN]; omega) | (simp; omega))) | (refine ext_call (by assumption) ?_ ?_; · (first | omega | (simp only [World.size_alloc, World.size_setCell, World.size_drew, World.heap_drewN]; omega) | (simp; omega)))))⟩
    simp only [Geo.isB, *]; rfl

theorem num_bounds {g : Geo} {p : Plc} (h : g.okB = true) (hp : g.isB p = true) : 0 ≤ p.b * g.P ∧ p.b * g.P + p.p < g.B * g.P ∧ g.B * g.P ≤ 160 ∧ 0 ≤ p.b ∧ p.b < g.B ∧ 0 ≤ p.p ∧ p.p < g.P := by
  have ho := (Geo.ok_iff g).1 h
  obtain ⟨b1, b2, p1, p2, _, _, _, _, _, _, _⟩ := ho
  simp only [Geo.isB, Bool.and_eq_true, inB_iff] at hp
  obtain ⟨⟨h1, h2⟩, h3, h4⟩ := hp
  have e1 : 0 ≤ p.b * g.P := Int.mul_nonneg h1 (by omega)
  have e2 : p.b * g.P ≤ (g.B - 1) * g.P := Int.mul_le_mul_of_nonneg_right h2 (by omega)
  have e3 : (g.B - 1) * g.P = g.B * g.P - g.P := by rw [Int.sub_mul]; omega
  have e4 : g.B * g.P ≤ 20 * 8 := Int.mul_le_mul b2 p2 (by omega) (by omega)
  omega

theorem number_yes (g : Geo) (p : Plc) (w : World) (h : g.okB = true) (hp : g.isB p = true) : Calls Tryz.prog 102 #[.agg #[i64 g.B, i64 g.P, i64 g.Y, i64 g.S, i64 g.T], .agg #[i64 p.b, i64 p.p]] w fun e w' => e = .returned (i64 (g.num p)) ∧ Below w.heap.size w w' := by
  obtain ⟨n1, n2, n3, n4, n5, n6, n7⟩ := num_bounds h hp
  obtain ⟨x, hx⟩ : ∃ x, x = p.b * g.P := ⟨_, rfl⟩
  have e1 : wrap64 (p.b * g.P) = x := by rw [hx]; unfold wrap64; omega
  have e2 : g.num p = x + p.p := by rw [hx]; rfl
  rw [← hx] at n1 n2
  have H := Lib.hid e2; clear e2 hx
  go_enter Tryz.func102, Tryz.ntmps102
  go_wp2_with (first | (go_at_call 98; refine (may_any g _).mono ?_; rintro e w' ⟨rfl, hb⟩; have hz := hb.size; (try simp only [World.size_alloc, World.size_setCell, World.size_drew, World.heap_drewN] at hz); (try have hz0 : w.heap.size < w'.heap.size := by omega); (try have hz1 : w.heap.size + 1 < w'.heap.size := by omega); (try have hz2 : w.heap.size + 2 < w'.heap.size := by omega); (try have hz3 : w.heap.size + 3 < w'.heap.size := by omega); obtain ⟨hc, hf⟩ := bcell hb) | (go_at_call 143; refine (is143 g p _ h).mono ?_; rintro e w' ⟨rfl, hb⟩; have hz := hb.size; (try simp only [World.size_alloc, World.size_setCell, World.size_drew, World.heap_drewN] at hz); (try have hz0 : w.heap.size < w'.heap.size := by omega); (try have hz1 : w.heap.size + 1 < w'.heap.size := by omega); (try have hz2 : w.heap.size + 2 < w'.heap.size := by omega); (try have hz3 : w.heap.size + 3 < w'.heap.size := by omega); obtain ⟨hc, hf⟩ := bcell hb))
  go_ret
  exact ⟨ret_i64 H.out.symm, by (repeat (first | exact Below.refl _ _ | assumption | (with_reducible refine Below.drew ?_) | (with_reducible refine below_drewN' ?_ _) | (with_reducible refine ext_alloc ?_ ?_; · (first | omega | (simp only [World.size_alloc, World.size_setCell, World.size_drew, World.heap_drewN]; omega) | (simp; omega))) | (with_reducible refine ext_setCell ?_ ?_; · (first | omega | (simp only [World.size_alloc, World.size_setCell, World.size_drew, World.heap_drewN]; omega) | (simp; omega))) | (refine ext_call (by assumption) ?_ ?_; · (first | omega | (simp only [World.size_alloc, World.size_setCell, World.size_drew, World.heap_drewN]; omega) | (simp; omega)))))⟩

theorem number_no (g : Geo) (p : Plc) (w : World) (h : g.okB = true) (hp : g.isB p = false) : Calls Tryz.prog 102 #[.agg #[i64 g.B, i64 g.P, i64 g.Y, i64 g.S, i64 g.T], .agg #[i64 p.b, i64 p.p]] w fun e w' => e = .returned (i64 (-1)) ∧ Below w.heap.size w w' := by
  go_enter Tryz.func102, Tryz.ntmps102
  go_wp2_with (first | (go_at_call 98; refine (may_any g _).mono ?_; rintro e w' ⟨rfl, hb⟩; have hz := hb.size; (try simp only [World.size_alloc, World.size_setCell, World.size_drew, World.heap_drewN] at hz); (try have hz0 : w.heap.size < w'.heap.size := by omega); (try have hz1 : w.heap.size + 1 < w'.heap.size := by omega); (try have hz2 : w.heap.size + 2 < w'.heap.size := by omega); (try have hz3 : w.heap.size + 3 < w'.heap.size := by omega); obtain ⟨hc, hf⟩ := bcell hb) | (go_at_call 143; refine (is143 g p _ h).mono ?_; rintro e w' ⟨rfl, hb⟩; have hz := hb.size; (try simp only [World.size_alloc, World.size_setCell, World.size_drew, World.heap_drewN] at hz); (try have hz0 : w.heap.size < w'.heap.size := by omega); (try have hz1 : w.heap.size + 1 < w'.heap.size := by omega); (try have hz2 : w.heap.size + 2 < w'.heap.size := by omega); (try have hz3 : w.heap.size + 3 < w'.heap.size := by omega); obtain ⟨hc, hf⟩ := bcell hb))
  go_ret
  exact ⟨rfl, by (repeat (first | exact Below.refl _ _ | assumption | (with_reducible refine Below.drew ?_) | (with_reducible refine below_drewN' ?_ _) | (with_reducible refine ext_alloc ?_ ?_; · (first | omega | (simp only [World.size_alloc, World.size_setCell, World.size_drew, World.heap_drewN]; omega) | (simp; omega))) | (with_reducible refine ext_setCell ?_ ?_; · (first | omega | (simp only [World.size_alloc, World.size_setCell, World.size_drew, World.heap_drewN]; omega) | (simp; omega))) | (refine ext_call (by assumption) ?_ ?_; · (first | omega | (simp only [World.size_alloc, World.size_setCell, World.size_drew, World.heap_drewN]; omega) | (simp; omega)))))⟩

/-- The place behind another one: its number is one more. -/
def Geo.next (g : Geo) (p : Plc) : Plc := if p.p + 1 < g.P then ⟨p.b, p.p + 1⟩ else ⟨p.b + 1, 0⟩
def Geo.last (g : Geo) (p : Plc) : Bool := decide (g.num p + 1 = g.B * g.P)

end Go.Proofs.YthghhcnpbehaiaaGreat
