/- geom's functions draw, and lay blocks, and no more: what a sort asks of its closure. -/
import Derived.Test.YthghhcnpbehaiaaGreatFa01

namespace Go.Proofs.YthghhcnpbehaiaaGreat
open Go.RowKit

/-- Nothing of w has turned; no draw was taken back. -/
def Grown (w w' : World) : Prop := Below w.heap.size w w' ∧ w.drawn ≤ w'.drawn
theorem Grown.refl (w : World) : Grown w w := ⟨Below.refl _ _, Nat.le_refl _⟩
theorem Grown.drew {a w : World} (h : Grown a w) : Grown a w.drew := ⟨h.1.drew, by have := h.2; show a.drawn ≤ w.drawn + 1; omega⟩
theorem Grown.drewN {a w : World} (h : Grown a w) (n : Nat) : Grown a (w.drewN n) := ⟨below_drewN' h.1 n, by have := h.2; show a.drawn ≤ w.drawn + n; omega⟩
theorem Grown.alloc {a w : World} (h : Grown a w) (o : Obj) : Grown a (w.alloc o) := ⟨h.1.alloc h.1.size o, h.2⟩
theorem Grown.call {a m w : World} (h : Grown m w) (h' : Grown a m) : Grown a w := ⟨ext_call h.1 h'.1.size h'.1, by have := h.2; have := h'.2; omega⟩
theorem Grown.set {a w : World} {p : Addr} {u : Value} (hB : a.heap.size ≤ p.block) (h : Grown a w) : Grown a (w.setCell p u) := ⟨h.1.setCell hB u, h.2⟩

theorem in_gr (n lo hi : Int) (w : World) :
    Calls Tryz.prog 138 #[i64 n, i64 lo, i64 hi] w fun e w' => e = .returned (.bool (inB n lo hi)) ∧ Grown w w' := by
  refine (in_any n lo hi w).mono ?_
  rintro e w' ⟨rfl, rfl⟩
  exact ⟨rfl, Grown.refl _⟩

set_option maxHeartbeats 400000 in
theorem half_gr (g : Geo) (w : World) (hB : inB g.B 8 20 = true) (hP : inB g.P 4 8 = true) (hS : inB g.S 0 4 = true) :
    Calls Tryz.prog 125 #[.agg #[i64 g.B, i64 g.P, i64 g.Y, i64 g.S, i64 g.T]] w fun e w' => e = .returned (i64 g.half) ∧ Grown w w' := by
  rw [inB_iff] at hB hP hS
  obtain ⟨b1, b2⟩ := hB
  obtain ⟨p1, p2⟩ := hP
  obtain ⟨s1, s2⟩ := hS
  have hm := half_bounds b1 b2 p1 p2 s1 s2
  have H := Lib.hid hm; clear hm
  go_enter Tryz.func125, Tryz.ntmps125
  go_wp2
  go_ret
  refine ⟨ret_i64 (half_arith H.out.1 H.out.2), ?_⟩
  (repeat (first | exact Grown.refl _ | assumption | (with_reducible refine Grown.drew ?_) | (with_reducible refine Grown.drewN ?_ _) | (with_reducible refine Grown.alloc ?_ _) | (with_reducible refine Grown.set ?_ ?_; · (first | omega | (simp only [World.size_alloc, World.size_setCell, World.size_drew, World.heap_drewN]; omega) | (simp; omega))) | (refine Grown.call (by assumption) ?_)))

set_option maxHeartbeats 400000 in
theorem may_gr (g : Geo) (w : World) :
    Calls Tryz.prog 98 #[.agg #[i64 g.B, i64 g.P, i64 g.Y, i64 g.S, i64 g.T]] w fun e w' => e = .returned (.bool g.okB) ∧ Grown w w' := by
  go_enter Tryz.func98, Tryz.ntmps98
  go_wp2_with (first
   | (go_at_call 138; refine (in_any _ _ _ _).mono ?_; rintro e w' ⟨rfl, rfl⟩)
   | (go_at_call 125; refine (half_gr g _ (by assumption) (by assumption) (by assumption)).mono ?_; rintro e w' ⟨rfl, hg⟩; have hb := hg.1; have hz := hb.size; (try simp only [World.size_alloc, World.size_setCell, World.size_drew, World.heap_drewN] at hz); (try have hz0 : w.heap.size < w'.heap.size := by omega); (try have hz1 : w.heap.size + 1 < w'.heap.size := by omega); (try have hz2 : w.heap.size + 2 < w'.heap.size := by omega); (try have hz3 : w.heap.size + 3 < w'.heap.size := by omega)))
  all_goals
    go_ret
    refine ⟨?_, ?_⟩
    · simp only [Geo.okB, *]; rfl
    · (repeat (first | exact Grown.refl _ | assumption | (with_reducible refine Grown.drew ?_) | (with_reducible refine Grown.drewN ?_ _) | (with_reducible refine Grown.alloc ?_ _) | (with_reducible refine Grown.set ?_ ?_; · (first | omega | (simp only [World.size_alloc, World.size_setCell, World.size_drew, World.heap_drewN]; omega) | (simp; omega))) | (refine Grown.call (by assumption) ?_)))

theorem is_gr (g : Geo) (p : Plc) (w : World) (h : g.okB = true) : Calls Tryz.prog 143 #[.agg #[i64 g.B, i64 g.P, i64 g.Y, i64 g.S, i64 g.T], .agg #[i64 p.b, i64 p.p]] w fun e w' => e = .returned (.bool (g.isB p)) ∧ Grown w w' := by
  have ho := (Geo.ok_iff g).1 h
  obtain ⟨b1, b2, p1, p2, _, _, _, _, _, _, _⟩ := ho
  go_enter Tryz.func143, Tryz.ntmps143
  go_wp2_with (first | (go_at_call 98; refine (may_gr g _).mono ?_; rintro e w' ⟨rfl, hg⟩; have hb := hg.1; have hz := hb.size; (try simp only [World.size_alloc, World.size_setCell, World.size_drew, World.heap_drewN] at hz); (try have hz0 : w.heap.size < w'.heap.size := by omega); (try have hz1 : w.heap.size + 1 < w'.heap.size := by omega); (try have hz2 : w.heap.size + 2 < w'.heap.size := by omega); (try have hz3 : w.heap.size + 3 < w'.heap.size := by omega); rw [h]; obtain ⟨hc, hf⟩ := bcell hb) | (go_at_call 138; refine (in_any _ _ _ _).mono ?_; rintro e w' ⟨rfl, rfl⟩))
  all_goals
    go_ret
    refine ⟨?_, by (repeat (first | exact Grown.refl _ | assumption | (with_reducible refine Grown.drew ?_) | (with_reducible refine Grown.drewN ?_ _) | (with_reducible refine Grown.alloc ?_ _) | (with_reducible refine Grown.set ?_ ?_; · (first | omega | (simp only [World.size_alloc, World.size_setCell, World.size_drew, World.heap_drewN]; omega) | (simp; omega))) | (refine Grown.call (by assumption) ?_)))⟩
    simp only [Geo.isB, *]; rfl

/-- A place's number; -1: there is no such place. -/
def Geo.numZ (g : Geo) (p : Plc) : Int := if g.isB p then g.num p else -1

theorem number_gr (g : Geo) (p : Plc) (w : World) (h : g.okB = true) : Calls Tryz.prog 102 #[.agg #[i64 g.B, i64 g.P, i64 g.Y, i64 g.S, i64 g.T], .agg #[i64 p.b, i64 p.p]] w fun e w' => e = .returned (i64 (g.numZ p)) ∧ Grown w w' := by
  cases hp : g.isB p
  · have e0 : g.numZ p = -1 := by simp [Geo.numZ, hp]
    rw [e0]; clear e0
    go_enter Tryz.func102, Tryz.ntmps102
    go_wp2_with (first | (go_at_call 98; refine (may_gr g _).mono ?_; rintro e w' ⟨rfl, hg⟩; have hb := hg.1; have hz := hb.size; (try simp only [World.size_alloc, World.size_setCell, World.size_drew, World.heap_drewN] at hz); (try have hz0 : w.heap.size < w'.heap.size := by omega); (try have hz1 : w.heap.size + 1 < w'.heap.size := by omega); (try have hz2 : w.heap.size + 2 < w'.heap.size := by omega); (try have hz3 : w.heap.size + 3 < w'.heap.size := by omega); rw [h]; obtain ⟨hc, hf⟩ := bcell hb) | (go_at_call 143; refine (is_gr g p _ h).mono ?_; rw [hp]; rintro e w' ⟨rfl, hg2⟩; have hb := hg2.1; have hz := hb.size; (try simp only [World.size_alloc, World.size_setCell, World.size_drew, World.heap_drewN] at hz); (try have hz0 : w.heap.size < w'.heap.size := by omega); (try have hz1 : w.heap.size + 1 < w'.heap.size := by omega); (try have hz2 : w.heap.size + 2 < w'.heap.size := by omega); (try have hz3 : w.heap.size + 3 < w'.heap.size := by omega); obtain ⟨hc, hf⟩ := bcell hb))
    go_ret
    exact ⟨rfl, by (repeat (first | exact Grown.refl _ | assumption | (with_reducible refine Grown.drew ?_) | (with_reducible refine Grown.drewN ?_ _) | (with_reducible refine Grown.alloc ?_ _) | (with_reducible refine Grown.set ?_ ?_; · (first | omega | (simp only [World.size_alloc, World.size_setCell, World.size_drew, World.heap_drewN]; omega) | (simp; omega))) | (refine Grown.call (by assumption) ?_)))⟩
  · have e0 : g.numZ p = g.num p := by simp [Geo.numZ, hp]
    rw [e0]; clear e0
    obtain ⟨n1, n2, n3, n4, n5, n6, n7⟩ := num_bounds h hp
    obtain ⟨x, hx⟩ : ∃ x, x = p.b * g.P := ⟨_, rfl⟩
    have e1 : wrap64 (p.b * g.P) = x := by rw [hx]; unfold wrap64; omega
    have e2 : g.num p = x + p.p := by rw [hx]; rfl
    rw [← hx] at n1 n2
    have H := Lib.hid e2; clear e2 hx
    go_enter Tryz.func102, Tryz.ntmps102
    go_wp2_with (first | (go_at_call 98; refine (may_gr g _).mono ?_; rintro e w' ⟨rfl, hg⟩; have hb := hg.1; have hz := hb.size; (try simp only [World.size_alloc, World.size_setCell, World.size_drew, World.heap_drewN] at hz); (try have hz0 : w.heap.size < w'.heap.size := by omega); (try have hz1 : w.heap.size + 1 < w'.heap.size := by omega); (try have hz2 : w.heap.size + 2 < w'.heap.size := by omega); (try have hz3 : w.heap.size + 3 < w'.heap.size := by omega); rw [h]; obtain ⟨hc, hf⟩ := bcell hb) | (go_at_call 143; refine (is_gr g p _ h).mono ?_; rw [hp]; rintro e w' ⟨rfl, hg2⟩; have hb := hg2.1; have hz := hb.size; (try simp only [World.size_alloc, World.size_setCell, World.size_drew, World.heap_drewN] at hz); (try have hz0 : w.heap.size < w'.heap.size := by omega); (try have hz1 : w.heap.size + 1 < w'.heap.size := by omega); (try have hz2 : w.heap.size + 2 < w'.heap.size := by omega); (try have hz3 : w.heap.size + 3 < w'.heap.size := by omega); obtain ⟨hc, hf⟩ := bcell hb))
    go_ret
    exact ⟨ret_i64 H.out.symm, by (repeat (first | exact Grown.refl _ | assumption | (with_reducible refine Grown.drew ?_) | (with_reducible refine Grown.drewN ?_ _) | (with_reducible refine Grown.alloc ?_ _) | (with_reducible refine Grown.set ?_ ?_; · (first | omega | (simp only [World.size_alloc, World.size_setCell, World.size_drew, World.heap_drewN]; omega) | (simp; omega))) | (refine Grown.call (by assumption) ?_)))⟩
end Go.Proofs.YthghhcnpbehaiaaGreat
