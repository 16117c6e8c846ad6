/- FlashAsks, walked: data too long; a geometry that may not be. -/
import Derived.Test.YthghhcnpbehaiaaGreatFa41

namespace Go.Proofs.YthghhcnpbehaiaaGreat
open Go.RowKit

set_option maxHeartbeats 2000000 in
set_option maxRecDepth 100000 in
theorem asks10_long (g : Geo) (n : Int) (d : List Int) (m : Nat) (hm : 200 < m) (A : Option Addr) (cap : Nat) (w : World) :
    Calls Tryz.prog 10 #[.agg #[i64 g.B, i64 g.P, i64 g.Y, i64 g.S, i64 g.T], i64 n, .slice A m cap] w fun e w' => e = .returned (.bool true) ∧ Below w.heap.size w w' := by
  have hmi : (200 : Int) < (m : Int) := by omega
  go_enter Tryz.func10, Tryz.ntmps10
  go_wp2_with fail
  refine (awake13 _).mono ?_
  rintro e w1 ⟨rfl, hb⟩
  go_wp2_with fail
  go_ret
  exact ⟨rfl, by (repeat (first | exact Below.refl _ _ | assumption | (with_reducible refine Below.drew ?_) | (with_reducible refine below_drewN' ?_ _) | (with_reducible refine ext_alloc ?_ ?_; · (first | omega | (simp only [World.size_alloc, World.size_setCell, World.size_drew, World.heap_drewN]; omega) | (simp; omega))) | (with_reducible refine ext_setCell ?_ ?_; · (first | omega | (simp only [World.size_alloc, World.size_setCell, World.size_drew, World.heap_drewN]; omega) | (simp; omega))) | (refine ext_call (by assumption) ?_ ?_; · (first | omega | (simp only [World.size_alloc, World.size_setCell, World.size_drew, World.heap_drewN]; omega) | (simp; omega)))))⟩

set_option maxHeartbeats 2000000 in
set_option maxRecDepth 100000 in
theorem asks10_no (g : Geo) (hg : g.okB = false) (n : Int) (d : List Int) (m : Nat) (hm : m ≤ 200) (A : Option Addr) (cap : Nat) (w : World) :
    Calls Tryz.prog 10 #[.agg #[i64 g.B, i64 g.P, i64 g.Y, i64 g.S, i64 g.T], i64 n, .slice A m cap] w fun e w' => e = .returned (.bool true) ∧ Below w.heap.size w w' := by
  have hmi : ¬ (200 : Int) < (m : Int) := by omega
  go_enter Tryz.func10, Tryz.ntmps10
  go_wp2_with fail
  refine (new14_no g _ hg).mono ?_
  rintro e w1 ⟨rfl, hb1⟩
  have z1 := hb1.size
  have B1 : Below w.heap.size w w1 := by (repeat (first | exact Below.refl _ _ | assumption | (with_reducible refine Below.drew ?_) | (with_reducible refine below_drewN' ?_ _) | (with_reducible refine ext_alloc ?_ ?_; · (first | omega | (simp only [World.size_alloc, World.size_setCell, World.size_drew, World.heap_drewN]; omega) | (simp; omega))) | (with_reducible refine ext_setCell ?_ ?_; · (first | omega | (simp only [World.size_alloc, World.size_setCell, World.size_drew, World.heap_drewN]; omega) | (simp; omega))) | (refine ext_call (by assumption) ?_ ?_; · (first | omega | (simp only [World.size_alloc, World.size_setCell, World.size_drew, World.heap_drewN]; omega) | (simp; omega)))))
  go_wp2_with fail
  refine (mount_nil _).mono ?_
  rintro e w2 ⟨rfl, rfl⟩
  go_wp2_with fail
  refine (awake13 _).mono ?_
  rintro e w3 ⟨rfl, hb3⟩
  have B3 := ext_call hb3 B1.size B1
  go_wp2_with fail
  go_ret
  exact ⟨rfl, B3⟩
end Go.Proofs.YthghhcnpbehaiaaGreat

/- The chip: a cut that is armed, and that comes. -/
namespace Go.Proofs.YthghhcnpbehaiaaGreat
open Go.RowKit

def Chip.armed (C : Chip) : Chip := { C with cop := 1, cby := 0, cfi := 0, turn := C.ops + 1 }
def Chip.cut (C : Chip) : Chip := { C with ops := C.ops + 1, turn := 0, off := true, cuts := C.cuts + 1 }

set_option maxHeartbeats 2000000 in
set_option maxRecDepth 100000 in
theorem arm42 {w : World} {A : CA} {C : Chip} (h : ChipAt w A C) (hoff : C.off = false) (ho : C.ops < 4611686018427387903) :
    Calls Tryz.prog 42 #[ptr A.c, .agg #[i64 1, i64 0, u8 0]] w fun e w' => e = .returned (i64 0) ∧ ChipAt w' A C.armed ∧ Turns A.foot w w' := by
  have l1 : A.c < w.heap.size := h.flt (.inl rfl)
  have c7 := h.str.cell0 7 rfl
  have c8 := h.str.cell0 8 rfl
  have f10 := h.str.free0 10 rfl
  have f11 := h.str.free0 11 rfl
  have f12 := h.str.free0 12 rfl
  have f13 := h.str.free0 13 rfl
  rw [hoff] at c7
  obtain ⟨o1, o2⟩ := h.opsb
  have hn : w.heap.size ≠ A.c := by omega
  go_enter Tryz.func42, Tryz.ntmps42
  go_wp2
  have hW0 : Below w.heap.size w (w.alloc (.cells #[i64 1, i64 0, u8 0] 62)).drew := by (repeat (first | exact Below.refl _ _ | assumption | (with_reducible refine Below.drew ?_) | (with_reducible refine below_drewN' ?_ _) | (with_reducible refine ext_alloc ?_ ?_; · (first | omega | (simp only [World.size_alloc, World.size_setCell, World.size_drew, World.heap_drewN]; omega) | (simp; omega))) | (with_reducible refine ext_setCell ?_ ?_; · (first | omega | (simp only [World.size_alloc, World.size_setCell, World.size_drew, World.heap_drewN]; omega) | (simp; omega))) | (refine ext_call (by assumption) ?_ ?_; · (first | omega | (simp only [World.size_alloc, World.size_setCell, World.size_drew, World.heap_drewN]; omega) | (simp; omega)))))
  have r0 : Row (w.alloc (.cells #[i64 1, i64 0, u8 0] 62)).drew w.heap.size 0 [i64 1, i64 0, u8 0] := Row.new _ _ _
  obtain ⟨W, hW⟩ : ∃ W, (w.alloc (.cells #[i64 1, i64 0, u8 0] 62)).drew = W := ⟨_, rfl⟩
  rw [hW] at hW0 r0
  have hC0 : ChipAt W A C := h.below hW0
  have hC3 : ChipAt (((W.setCell ⟨A.c, 10, none⟩ (i64 1)).setCell ⟨A.c, 11, none⟩ (i64 0)).setCell ⟨A.c, 12, none⟩ (u8 0)) A { C with cop := 1, cby := 0, cfi := 0 } :=
    ((hC0.set (C' := { C with cop := 1 }) 10 (i64 1) rfl rfl rfl rfl h.opsb).set (C' := { C with cop := 1, cby := 0 }) 11 (i64 0) rfl rfl rfl rfl h.opsb).set 12 (u8 0) rfl rfl rfl rfl h.opsb
  have hJc : ∀ (e' : Env) w', Hid (w' = (match e' 12 with | none => W | some _ => ((W.setCell ⟨A.c, 10, none⟩ (i64 1)).setCell ⟨A.c, 11, none⟩ (i64 0)).setCell ⟨A.c, 12, none⟩ (u8 0))) → w'.cell? ⟨A.c, 8, none⟩ = some (i64 C.ops) ∧ Row w' w.heap.size 0 [i64 1, i64 0, u8 0] := fun e' w' hJ => by
    have hJ := hJ.out
    subst hJ
    have g8 := hC0.str.cell0 8 rfl
    cases e' 12
    · exact ⟨g8, r0⟩
    · exact ⟨hC3.str.cell0 8 rfl, ((r0.setCell_ne (by exact Ne.symm hn) _).setCell_ne (by exact Ne.symm hn) _).setCell_ne (by exact Ne.symm hn) _⟩
  apply wp_region_rel 13 (fun e w' => Hid (w' = (match e 12 with | none => W | some _ => ((W.setCell ⟨A.c, 10, none⟩ (i64 1)).setCell ⟨A.c, 11, none⟩ (i64 0)).setCell ⟨A.c, 12, none⟩ (u8 0)))) [[], [], [], [], [], [], [], [], [], [], [], [], []]
  · kernel_rfl
  · kernel_rfl
  · exact hW
  · kernel_rfl
  simp only [List.take_succ_cons, List.take_zero, List.drop_succ_cons, List.drop_zero]
  iterate 2 (apply rel_val; (· rfl); (· (intro e' w' hD he hJ; skip; refine relv_of (by (go_simp; first | rfl | exact ⟨rfl, rfl⟩)) ⟨rfl, ?_⟩; exact hJ)); simp only [Act.put, List.setIfInBounds_toArray, List.set_cons_zero, List.set_cons_succ])
  (apply rel_val (v := .agg #[i64 1, i64 0, u8 0]); (· rfl); (· (intro e' w' hD he hJ; (obtain ⟨g8, r⟩ := hJc e' w' hJ; have g0 : w'.cell? ⟨w.heap.size, 0, none⟩ = _ := r.cell0 0 rfl; have g1 : w'.cell? ⟨w.heap.size, 1, none⟩ = _ := r.cell0 1 rfl; have g2 : w'.cell? ⟨w.heap.size, 2, none⟩ = _ := r.cell0 2 rfl); refine relv_of (u := .agg #[i64 1, i64 0, u8 0]) (w := w') (by go_simp) ⟨rfl, ?_⟩; exact hJ)); simp only [Act.put, List.setIfInBounds_toArray, List.set_cons_zero, List.set_cons_succ])
  iterate 3 (apply rel_val; (· rfl); (· (intro e' w' hD he hJ; skip; refine relv_of (by (go_simp; first | rfl | exact ⟨rfl, rfl⟩)) ⟨rfl, ?_⟩; exact hJ)); simp only [Act.put, List.setIfInBounds_toArray, List.set_cons_zero, List.set_cons_succ])
  (apply rel_val (v := i64 C.ops); (· rfl); (· (intro e' w' hD he hJ; (obtain ⟨g8, r⟩ := hJc e' w' hJ); refine relv_of (u := i64 C.ops) (w := w') (by go_simp) ⟨rfl, ?_⟩; exact hJ)); simp only [Act.put, List.setIfInBounds_toArray, List.set_cons_zero, List.set_cons_succ])
  iterate 1 (apply rel_val; (· rfl); (· (intro e' w' hD he hJ; skip; refine relv_of (by (go_simp; first | rfl | exact ⟨rfl, rfl⟩)) ⟨rfl, ?_⟩; exact hJ)); simp only [Act.put, List.setIfInBounds_toArray, List.set_cons_zero, List.set_cons_succ])
  (apply rel_val (v := i64 1); (· rfl); (· (intro e' w' hD he hJ; (obtain ⟨g8, r⟩ := hJc e' w' hJ; have g0 : w'.cell? ⟨w.heap.size, 0, none⟩ = _ := r.cell0 0 rfl); refine relv_of (u := i64 1) (w := w') (by go_simp) ⟨rfl, ?_⟩; exact hJ)); simp only [Act.put, List.setIfInBounds_toArray, List.set_cons_zero, List.set_cons_succ])
  iterate 3 (apply rel_val; (· rfl); (· (intro e' w' hD he hJ; skip; refine relv_of (by (go_simp; first | rfl | exact ⟨rfl, rfl⟩)) ⟨rfl, ?_⟩; exact hJ)); simp only [Act.put, List.setIfInBounds_toArray, List.set_cons_zero, List.set_cons_succ])
  apply rel_val (v := undef)
  · rfl
  · intro e' w' hD he hJ
    rw [he] at hJ
    have hJ : w' = W := hJ.out
    subst hJ
    have u0 := hC0.str.cell0 10 rfl
    have u1 := hC0.str.cell0 11 rfl
    have u2 := hC0.str.cell0 12 rfl
    have v0 := hC0.str.free0 10 rfl
    have v1 := hC0.str.free0 11 rfl
    have v2 := hC0.str.free0 12 rfl
    go_simp
    exact ⟨rfl, rfl⟩
  simp only [Act.put, List.setIfInBounds_toArray, List.set_cons_zero, List.set_cons_succ]
  apply rel_nil
  intro w5 hJ
  have hJ5 : w5 = ((W.setCell ⟨A.c, 10, none⟩ (i64 1)).setCell ⟨A.c, 11, none⟩ (i64 0)).setCell ⟨A.c, 12, none⟩ (u8 0) := hJ.out
  rw [← hJ5] at hC3
  have hT3 : Turns A.foot w w5 := by
    rw [hJ5]
    exact (((Turns.of_below hW0).setCell (.inl (.inl rfl)) _).setCell (.inl (.inl rfl)) _).setCell (.inl (.inl rfl)) _
  have hC4 : ChipAt (w5.setCell ⟨A.c, 13, none⟩ (i64 (C.ops + 1))) A C.armed := hC3.set 13 _ rfl rfl rfl rfl h.opsb
  have HC4 := Lib.hid hC4
  have v13 := hC3.str.free0 13 rfl
  have u13 := hC3.str.cell0 13 rfl
  clear hJ hJ5 hJc hC3 hC4
  go_wp2
  go_ret
  exact ⟨rfl, HC4.out, hT3.setCell (.inl (.inl rfl)) _⟩

set_option maxHeartbeats 2000000 in
set_option maxRecDepth 100000 in
theorem begin84_cut {w : World} {A : CA} {C : Chip} (h : ChipAt w A C) (ht : C.turn = C.ops + 1) (hoff : C.off = false) (ho : C.ops < 4611686018427387903) (hcu : 0 ≤ C.cuts ∧ C.cuts < 1000):
    Calls Tryz.prog 84 #[ptr A.c] w fun e w' => e = .returned (.bool true) ∧ ChipAt w' A C.cut ∧ Turns A.foot w w' := by
  have c8 := h.str.cell0 8 rfl
  have c9 := h.str.cell0 9 rfl
  have c13 := h.str.cell0 13 rfl
  have c7 := h.str.cell0 7 rfl
  have f7 := h.str.free0 7 rfl
  have f8 := h.str.free0 8 rfl
  have f9 := h.str.free0 9 rfl
  have f13 := h.str.free0 13 rfl
  rw [ht] at c13
  obtain ⟨o1, o2⟩ := h.opsb
  obtain ⟨k1, k2⟩ := hcu
  have q1 : ¬ (C.ops + 1 = 0) := by omega
  have q2 : (C.ops + 1 == 0) = false := by simpa using q1
  go_enter Tryz.func84, Tryz.ntmps84
  go_wp2
  go_quiet (fail)
  go_wp2
  go_ret
  have H1 : ChipAt ((w.setCell ⟨A.c, 8, none⟩ (i64 (C.ops + 1))).drewN nq) A { C with ops := C.ops + 1 } := (h.set (C' := { C with ops := C.ops + 1 }) 8 _ rfl rfl rfl rfl ⟨by show 0 ≤ C.ops + 1; omega, by show C.ops + 1 < _; omega⟩).drewN _
  have H2 := ((H1.set (C' := { C with ops := C.ops + 1, turn := 0 }) 13 (i64 0) rfl rfl rfl rfl ⟨by show 0 ≤ C.ops + 1; omega, by show C.ops + 1 < _; omega⟩).set (C' := { C with ops := C.ops + 1, turn := 0, off := true }) 7 (.bool true) rfl rfl rfl rfl ⟨by show 0 ≤ C.ops + 1; omega, by show C.ops + 1 < _; omega⟩).set (C' := C.cut) 9 (i64 (C.cuts + 1)) rfl rfl rfl rfl ⟨by show 0 ≤ C.ops + 1; omega, by show C.ops + 1 < _; omega⟩
  refine ⟨rfl, H2, ?_⟩
  exact (((((Turns.refl _ _).setCell (.inl (.inl rfl)) _).drewN _).setCell (.inl (.inl rfl)) _).setCell (.inl (.inl rfl)) _).setCell (.inl (.inl rfl)) _

set_option maxHeartbeats 2000000 in
set_option maxRecDepth 100000 in
theorem read43_cut {w : World} {A : CA} {C : Chip} (h : ChipAt w A C) (hp : C.g.isB ⟨0, 0⟩ = true) (hoff : C.off = false) (ht : C.turn = C.ops + 1) (ho : C.ops < 4611686018427387903) (hcu : 0 ≤ C.cuts ∧ C.cuts < 1000) :
    Calls Tryz.prog 43 #[ptr A.c, .agg #[i64 0, i64 0]] w fun e w' => e = .returned (.tuple #[.slice none 0 0, i64 9]) ∧ ChipAt w' A C.cut ∧ Turns A.foot w w' := by
  have ha : C.asked ⟨0, 0⟩ = 0 := by simp [Chip.asked, hoff, hp]
  have HA := Lib.hid ha; clear ha
  have l1 : A.c < w.heap.size := h.flt (.inl rfl)
  have hn : w.heap.size ≠ A.c := by omega
  go_enter Tryz.func43, Tryz.ntmps43
  go_wp2_with (first
    | (go_at_call 83; refine (asked83 (h.below (by (repeat (first | exact Below.refl _ _ | assumption | (with_reducible refine Below.drew ?_) | (with_reducible refine below_drewN' ?_ _) | (with_reducible refine ext_alloc ?_ ?_; · (first | omega | (simp only [World.size_alloc, World.size_setCell, World.size_drew, World.heap_drewN]; omega) | (simp; omega))) | (with_reducible refine ext_setCell ?_ ?_; · (first | omega | (simp only [World.size_alloc, World.size_setCell, World.size_drew, World.heap_drewN]; omega) | (simp; omega))) | (refine ext_call (by assumption) ?_ ?_; · (first | omega | (simp only [World.size_alloc, World.size_setCell, World.size_drew, World.heap_drewN]; omega) | (simp; omega))))))) ⟨0, 0⟩).mono ?_; rw [HA.out]; rintro e w' ⟨rfl, hb⟩; have hz := hb.size; (try simp only [World.size_alloc, World.size_setCell, World.size_drew, World.heap_drewN] at hz); (try have hz0 : w.heap.size < w'.heap.size := by omega); (try have hz1 : w.heap.size + 1 < w'.heap.size := by omega); (try have hz2 : w.heap.size + 2 < w'.heap.size := by omega); (try have hz3 : w.heap.size + 3 < w'.heap.size := by omega); obtain ⟨hc, hf⟩ := bcell hb)
    | fail)
  have hC1 : ChipAt w' A C := h.below (by (repeat (first | exact Below.refl _ _ | assumption | (with_reducible refine Below.drew ?_) | (with_reducible refine below_drewN' ?_ _) | (with_reducible refine ext_alloc ?_ ?_; · (first | omega | (simp only [World.size_alloc, World.size_setCell, World.size_drew, World.heap_drewN]; omega) | (simp; omega))) | (with_reducible refine ext_setCell ?_ ?_; · (first | omega | (simp only [World.size_alloc, World.size_setCell, World.size_drew, World.heap_drewN]; omega) | (simp; omega))) | (refine ext_call (by assumption) ?_ ?_; · (first | omega | (simp only [World.size_alloc, World.size_setCell, World.size_drew, World.heap_drewN]; omega) | (simp; omega))))))
  have hbw : Below w.heap.size w w' := by (repeat (first | exact Below.refl _ _ | assumption | (with_reducible refine Below.drew ?_) | (with_reducible refine below_drewN' ?_ _) | (with_reducible refine ext_alloc ?_ ?_; · (first | omega | (simp only [World.size_alloc, World.size_setCell, World.size_drew, World.heap_drewN]; omega) | (simp; omega))) | (with_reducible refine ext_setCell ?_ ?_; · (first | omega | (simp only [World.size_alloc, World.size_setCell, World.size_drew, World.heap_drewN]; omega) | (simp; omega))) | (refine ext_call (by assumption) ?_ ?_; · (first | omega | (simp only [World.size_alloc, World.size_setCell, World.size_drew, World.heap_drewN]; omega) | (simp; omega)))))
  refine (begin84_cut hC1 ht hoff ho hcu).mono ?_
  rintro e w1 ⟨rfl, hC2, ht1⟩
  have HC2 := Lib.hid hC2; clear hC2
  clear hc hf
  go_wp2_with fail
  go_ret2
  exact ⟨rfl, HC2.out, (Turns.of_below hbw).trans ht1⟩
end Go.Proofs.YthghhcnpbehaiaaGreat
