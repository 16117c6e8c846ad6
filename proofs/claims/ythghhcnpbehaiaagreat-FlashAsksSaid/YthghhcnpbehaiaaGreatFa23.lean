/- geom.Next. -/
import Derived.Test.YthghhcnpbehaiaaGreatFa01
import Derived.Test.YthghhcnpbehaiaaGreatFa03

namespace Go.Proofs.YthghhcnpbehaiaaGreat
open Go.RowKit

def Geo.place (g : Geo) (k : Int) : Plc := ⟨k / g.P, k % g.P⟩

set_option maxHeartbeats 2000000 in
set_option maxRecDepth 100000 in
theorem next61_end (g : Geo) (p : Plc) (w : World) (h : g.okB = true) (hp : g.isB p = true) (hk : g.num p + 1 = g.B * g.P) :
    Calls Tryz.prog 61 #[.agg #[i64 g.B, i64 g.P, i64 g.Y, i64 g.S, i64 g.T], .agg #[i64 p.b, i64 p.p]] w fun e w' => e = .returned (.tuple #[.agg #[i64 0, i64 0], .bool false]) ∧ Below w.heap.size w w' := by
  obtain ⟨n1, n2, n3, n4, n5, n6, n7⟩ := num_bounds h hp
  have hnum : g.num p = p.b * g.P + p.p := rfl
  obtain ⟨q, hq⟩ : ∃ q, g.B * g.P = q := ⟨_, rfl⟩
  have e1 : IntKind.i64.wrap (g.num p + 1) = q := by rw [hk, hq]; exact IntWalk.i64_in _ (by omega)
  have e2 : IntKind.i64.wrap (g.B * g.P) = q := by rw [hq]; exact IntWalk.i64_in _ (by omega)
  have q0 : ¬ q = 0 := by omega
  clear n1 n2 n3 hnum hk hq
  go_enter Tryz.func61, Tryz.ntmps61
  go_wp2_with fail
  refine (number_yes g p _ h hp).mono ?_
  rintro e w1 ⟨rfl, hb1⟩
  have hw1 : Below w.heap.size w w1 := by (repeat (first | exact Below.refl _ _ | assumption | (with_reducible refine Below.drew ?_) | (with_reducible refine below_drewN' ?_ _) | (with_reducible refine ext_alloc ?_ ?_; · (first | omega | (simp only [World.size_alloc, World.size_setCell, World.size_drew, World.heap_drewN]; omega) | (simp; omega))) | (with_reducible refine ext_setCell ?_ ?_; · (first | omega | (simp only [World.size_alloc, World.size_setCell, World.size_drew, World.heap_drewN]; omega) | (simp; omega))) | (refine ext_call (by assumption) ?_ ?_; · (first | omega | (simp only [World.size_alloc, World.size_setCell, World.size_drew, World.heap_drewN]; omega) | (simp; omega)))))
  have z1 := hb1.size
  simp only [World.size_alloc] at z1
  have f1 := (((Row.new w #[i64 g.B, i64 g.P, i64 g.Y, i64 g.S, i64 g.T] 23).alloc (.cells #[i64 p.b, i64 p.p] 75)).alloc (.cells #[i64 0, i64 0] 75)).below hb1
  have k0 := f1.cell0 0 rfl
  have k1 := f1.cell0 1 rfl
  have k2 := f1.cell0 2 rfl
  have k3 := f1.cell0 3 rfl
  have k4 := f1.cell0 4 rfl
  have f5 : Row w1 (w.heap.size + 1 + 1) 0 [i64 0, i64 0] := by
    have := (Row.new ((w.alloc (.cells #[i64 g.B, i64 g.P, i64 g.Y, i64 g.S, i64 g.T] 23)).alloc (.cells #[i64 p.b, i64 p.p] 75)) #[i64 0, i64 0] 75).below hb1
    simpa using this
  go_wp2_with fail
  refine (may_any g _).mono ?_
  rw [h]
  rintro e w2 ⟨rfl, hb2⟩
  have hw2 : Below w.heap.size w w2 := by (repeat (first | exact Below.refl _ _ | assumption | (with_reducible refine Below.drew ?_) | (with_reducible refine below_drewN' ?_ _) | (with_reducible refine ext_alloc ?_ ?_; · (first | omega | (simp only [World.size_alloc, World.size_setCell, World.size_drew, World.heap_drewN]; omega) | (simp; omega))) | (with_reducible refine ext_setCell ?_ ?_; · (first | omega | (simp only [World.size_alloc, World.size_setCell, World.size_drew, World.heap_drewN]; omega) | (simp; omega))) | (refine ext_call (by assumption) ?_ ?_; · (first | omega | (simp only [World.size_alloc, World.size_setCell, World.size_drew, World.heap_drewN]; omega) | (simp; omega)))))
  have z2 := hb2.size
  replace k0 := keepc hb2 k0
  replace k1 := keepc hb2 k1
  have f6 := f5.below hb2
  have s0 := f6.cell0 0 rfl
  have s1 := f6.cell0 1 rfl
  have u0 := f6.free0 0 rfl
  have u1 := f6.free0 1 rfl
  go_wp2_with fail
  exact bodyPost_ret (v := .tuple #[.agg #[i64 0, i64 0], .bool false]) (by simp [results, Tryz.results61, go_sem, *]) rfl (by refine ⟨rfl, ?_⟩; (repeat (first | exact Below.refl _ _ | assumption | (with_reducible refine Below.drew ?_) | (with_reducible refine below_drewN' ?_ _) | (with_reducible refine ext_alloc ?_ ?_; · (first | omega | (simp only [World.size_alloc, World.size_setCell, World.size_drew, World.heap_drewN]; omega) | (simp; omega))) | (with_reducible refine ext_setCell ?_ ?_; · (first | omega | (simp only [World.size_alloc, World.size_setCell, World.size_drew, World.heap_drewN]; omega) | (simp; omega))) | (refine ext_call (by assumption) ?_ ?_; · (first | omega | (simp only [World.size_alloc, World.size_setCell, World.size_drew, World.heap_drewN]; omega) | (simp; omega))))))

set_option maxHeartbeats 2000000 in
set_option maxRecDepth 100000 in
theorem next61 (g : Geo) (p : Plc) (w : World) (h : g.okB = true) (hp : g.isB p = true) (hk : g.num p + 1 < g.B * g.P) :
    Calls Tryz.prog 61 #[.agg #[i64 g.B, i64 g.P, i64 g.Y, i64 g.S, i64 g.T], .agg #[i64 p.b, i64 p.p]] w fun e w' => e = .returned (.tuple #[(g.place (g.num p + 1)).v, .bool true]) ∧ Below w.heap.size w w' := by
  obtain ⟨n1, n2, n3, n4, n5, n6, n7⟩ := num_bounds h hp
  have hnum : g.num p = p.b * g.P + p.p := rfl
  obtain ⟨q, hq⟩ : ∃ q, g.B * g.P = q := ⟨_, rfl⟩
  obtain ⟨k, hkk⟩ : ∃ k, g.num p + 1 = k := ⟨_, rfl⟩
  have e1 : IntKind.i64.wrap (g.num p + 1) = k := by rw [hkk]; exact IntWalk.i64_in _ (by omega)
  have e2 : IntKind.i64.wrap (g.B * g.P) = q := by rw [hq]; exact IntWalk.i64_in _ (by omega)
  have q0 : (k == 0) = false := by simp; omega
  have q1 : (k == q) = false := by simp; omega
  have k00 : 0 ≤ k := by omega
  have kq : k < 200 := by omega
  have hP := ((Geo.ok_iff g).1 h).p1
  have hP0 : ¬ g.P = 0 := by omega
  have hP1 : ¬ g.P = -1 := by omega
  have d1 : k.tdiv g.P = k / g.P := Int.tdiv_eq_ediv_of_nonneg k00
  have d2 : k.tmod g.P = k % g.P := Int.tmod_eq_emod_of_nonneg k00
  have d3 : IntKind.i64.wrap (k / g.P) = k / g.P := by
    have h1 := Int.ediv_nonneg k00 (b := g.P) (by omega)
    have h2 := Int.ediv_le_self g.P k00
    exact IntWalk.i64_in _ (by omega)
  have HK := Lib.hid hkk
  clear n1 n2 n3 hnum hk hq hkk
  go_enter Tryz.func61, Tryz.ntmps61
  go_wp2_with fail
  refine (number_yes g p _ h hp).mono ?_
  rintro e w1 ⟨rfl, hb1⟩
  have hw1 : Below w.heap.size w w1 := by (repeat (first | exact Below.refl _ _ | assumption | (with_reducible refine Below.drew ?_) | (with_reducible refine below_drewN' ?_ _) | (with_reducible refine ext_alloc ?_ ?_; · (first | omega | (simp only [World.size_alloc, World.size_setCell, World.size_drew, World.heap_drewN]; omega) | (simp; omega))) | (with_reducible refine ext_setCell ?_ ?_; · (first | omega | (simp only [World.size_alloc, World.size_setCell, World.size_drew, World.heap_drewN]; omega) | (simp; omega))) | (refine ext_call (by assumption) ?_ ?_; · (first | omega | (simp only [World.size_alloc, World.size_setCell, World.size_drew, World.heap_drewN]; omega) | (simp; omega)))))
  have z1 := hb1.size
  simp only [World.size_alloc] at z1
  have f1 := (((Row.new w #[i64 g.B, i64 g.P, i64 g.Y, i64 g.S, i64 g.T] 23).alloc (.cells #[i64 p.b, i64 p.p] 75)).alloc (.cells #[i64 0, i64 0] 75)).below hb1
  have k0 := f1.cell0 0 rfl
  have k1 := f1.cell0 1 rfl
  have k2 := f1.cell0 2 rfl
  have k3 := f1.cell0 3 rfl
  have k4 := f1.cell0 4 rfl
  have f5 : Row w1 (w.heap.size + 1 + 1) 0 [i64 0, i64 0] := by
    have := (Row.new ((w.alloc (.cells #[i64 g.B, i64 g.P, i64 g.Y, i64 g.S, i64 g.T] 23)).alloc (.cells #[i64 p.b, i64 p.p] 75)) #[i64 0, i64 0] 75).below hb1
    simpa using this
  go_wp2_with fail
  refine (may_any g _).mono ?_
  rw [h]
  rintro e w2 ⟨rfl, hb2⟩
  have hw2 : Below w.heap.size w w2 := by (repeat (first | exact Below.refl _ _ | assumption | (with_reducible refine Below.drew ?_) | (with_reducible refine below_drewN' ?_ _) | (with_reducible refine ext_alloc ?_ ?_; · (first | omega | (simp only [World.size_alloc, World.size_setCell, World.size_drew, World.heap_drewN]; omega) | (simp; omega))) | (with_reducible refine ext_setCell ?_ ?_; · (first | omega | (simp only [World.size_alloc, World.size_setCell, World.size_drew, World.heap_drewN]; omega) | (simp; omega))) | (refine ext_call (by assumption) ?_ ?_; · (first | omega | (simp only [World.size_alloc, World.size_setCell, World.size_drew, World.heap_drewN]; omega) | (simp; omega)))))
  have z2 := hb2.size
  replace k0 := keepc hb2 k0
  replace k1 := keepc hb2 k1
  have f6 := f5.below hb2
  have lt2 : w.heap.size < w2.heap.size := f1.lt (by simp) |> fun h => Nat.lt_of_lt_of_le h z2
  go_wp2_with fail
  refine wp_region_keep 9 (fun wJ => Below (w2).heap.size (w2) wJ) (by kernel_rfl) (by kernel_rfl) (by (repeat (first | exact Below.refl _ _ | assumption | (with_reducible refine Below.drew ?_) | (with_reducible refine below_drewN' ?_ _) | (with_reducible refine ext_alloc ?_ ?_; · (first | omega | (simp only [World.size_alloc, World.size_setCell, World.size_drew, World.heap_drewN]; omega) | (simp; omega))) | (with_reducible refine ext_setCell ?_ ?_; · (first | omega | (simp only [World.size_alloc, World.size_setCell, World.size_drew, World.heap_drewN]; omega) | (simp; omega))) | (refine ext_call (by assumption) ?_ ?_; · (first | omega | (simp only [World.size_alloc, World.size_setCell, World.size_drew, World.heap_drewN]; omega) | (simp; omega)))))) ?_
  simp only [List.take_succ_cons, List.take_zero, List.drop_succ_cons, List.drop_zero]
  iterate 9 (apply keep_yes; (· rfl); (· (intro w' hJ; (try obtain ⟨hc', hf'⟩ := bcell hJ); refine gives_of (by (go_simp; rfl)) rfl hJ)); simp only [Act.put, List.setIfInBounds_toArray, List.set_cons_zero, List.set_cons_succ])
  refine keep_nil ?_
  intro w3 hb3
  have f7 := f6.below hb3
  have s0 := f7.cell0 0 rfl
  have s1 := f7.cell0 1 rfl
  have u0 := f7.free0 0 rfl
  have u1 := f7.free0 1 rfl
  have hw3 : Below w.heap.size w w3 := ext_call hb3 hw2.size hw2
  go_wp2_with fail
  exact bodyPost_ret (v := .tuple #[(g.place k).v, .bool true]) (by simp [results, Tryz.results61, go_sem, Geo.place, *]) rfl (by refine ⟨by rw [HK.out], ?_⟩; (repeat (first | exact Below.refl _ _ | assumption | (with_reducible refine Below.drew ?_) | (with_reducible refine below_drewN' ?_ _) | (with_reducible refine ext_alloc ?_ ?_; · (first | omega | (simp only [World.size_alloc, World.size_setCell, World.size_drew, World.heap_drewN]; omega) | (simp; omega))) | (with_reducible refine ext_setCell ?_ ?_; · (first | omega | (simp only [World.size_alloc, World.size_setCell, World.size_drew, World.heap_drewN]; omega) | (simp; omega))) | (refine ext_call (by assumption) ?_ ?_; · (first | omega | (simp only [World.size_alloc, World.size_setCell, World.size_drew, World.heap_drewN]; omega) | (simp; omega))))))
end Go.Proofs.YthghhcnpbehaiaaGreat
