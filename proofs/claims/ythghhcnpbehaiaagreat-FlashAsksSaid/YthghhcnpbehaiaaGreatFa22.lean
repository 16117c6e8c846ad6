/- leaf.Load. -/
import Derived.Test.YthghhcnpbehaiaaGreatFa21

namespace Go.Proofs.YthghhcnpbehaiaaGreat
open Go.RowKit

set_option maxHeartbeats 2000000 in
set_option maxRecDepth 100000 in
theorem load63 {w : World} {A : CA} {C : Chip} (h : ChipAt w A C) (p : Plc) (b : Blk) (hp : C.g.isB p = true) (hbk : C.at p.b = some b) (hoff : C.off = false) (ht : C.turn = 0) (ho : C.ops < 4611686018427387903)
    (t : Tag) (htk : t.Ok) (d : List Int) (hd : (d.length : Int) = C.g.Y) (hb : ∀ x ∈ d, 0 ≤ x ∧ x ≤ 255) (hpg : b.page p.p.toNat (C.g.Y + 16).toNat = rawOf d t) :
    Calls Tryz.prog 63 #[ptr A.c, .agg #[i64 p.b, i64 p.p]] w fun e w' => (∃ v, e = .returned (.tuple #[v, t.v, i64 0]) ∧ Fresh w.heap.size w' d v) ∧ ChipAt w' A { C with ops := C.ops + 1 } ∧ Turns A.foot w w' := by
  have l1 : A.c < w.heap.size := h.flt (.inl rfl)
  have hnfo : ∀ k, w.heap.size ≤ k → ¬ A.foot k := fun k hk hf => by have := h.flt hf; omega
  have HNF := Lib.hid hnfo
  clear hnfo
  go_enter Tryz.func63, Tryz.ntmps63
  go_wp2_with fail
  refine (look104 (h.below (by (repeat (first | exact Below.refl _ _ | assumption | (with_reducible refine Below.drew ?_) | (with_reducible refine below_drewN' ?_ _) | (with_reducible refine ext_alloc ?_ ?_; · (first | omega | (simp only [World.size_alloc, World.size_setCell, World.size_drew, World.heap_drewN]; omega) | (simp; omega))) | (with_reducible refine ext_setCell ?_ ?_; · (first | omega | (simp only [World.size_alloc, World.size_setCell, World.size_drew, World.heap_drewN]; omega) | (simp; omega))) | (refine ext_call (by assumption) ?_ ?_; · (first | omega | (simp only [World.size_alloc, World.size_setCell, World.size_drew, World.heap_drewN]; omega) | (simp; omega))))))) p b hp hbk hoff ht ho t htk d hd hb hpg).mono ?_
  rintro e w1 ⟨⟨v, rfl, hf⟩, hC1, ht1⟩
  have zt := ht1.size
  simp only [World.size_alloc] at zt hf
  have f5 : Row w1 (w.heap.size + 1) 0 [i64 0, i64 0, i64 0, i64 0] := by
    have := (Row.new (w.alloc (.cells #[i64 p.b, i64 p.p] 75)) #[i64 0, i64 0, i64 0, i64 0] 105).turns ht1 (HNF.out _ (by simp))
    simpa using this
  have hT1 : Turns A.foot w w1 := (((Turns.refl _ w).alloc _).alloc _).trans ht1
  have HC1 := Lib.hid hC1
  have HT1 := Lib.hid hT1
  have HF := Lib.hid hf
  have lt5 : w.heap.size + 1 < w1.heap.size := f5.lt (by simp)
  clear hC1 hT1 ht1 hf
  go_wp2_with fail
  have f11 : Row (w1.alloc (.cells #[i64 t.kind, i64 t.page, i64 t.seq, i64 t.epoch] 105)) w1.heap.size 0 [i64 t.kind, i64 t.page, i64 t.seq, i64 t.epoch] := Row.new _ _ _
  have f6 := f5.alloc (.cells #[i64 t.kind, i64 t.page, i64 t.seq, i64 t.epoch] 105)
  have hb3 : Below w1.heap.size w1 (w1.alloc (.cells #[i64 t.kind, i64 t.page, i64 t.seq, i64 t.epoch] 105)) := (Below.refl _ _).alloc (Nat.le_refl _) _
  generalize w1.alloc (.cells #[i64 t.kind, i64 t.page, i64 t.seq, i64 t.epoch] 105) = w3 at *
  have lt3 : w1.heap.size < w3.heap.size := f11.lt (by simp)
  obtain ⟨g0, g1, g2, g3⟩ := f11.four
  refine wp_region_keep 3 (fun wJ => Below w3.heap.size w3 wJ) (by kernel_rfl) (by kernel_rfl) (by (repeat (first | exact Below.refl _ _ | assumption | (with_reducible refine Below.drew ?_) | (with_reducible refine below_drewN' ?_ _) | (with_reducible refine ext_alloc ?_ ?_; · (first | omega | (simp only [World.size_alloc, World.size_setCell, World.size_drew, World.heap_drewN]; omega) | (simp; omega))) | (with_reducible refine ext_setCell ?_ ?_; · (first | omega | (simp only [World.size_alloc, World.size_setCell, World.size_drew, World.heap_drewN]; omega) | (simp; omega))) | (refine ext_call (by assumption) ?_ ?_; · (first | omega | (simp only [World.size_alloc, World.size_setCell, World.size_drew, World.heap_drewN]; omega) | (simp; omega)))))) ?_
  simp only [List.take_succ_cons, List.take_zero, List.drop_succ_cons, List.drop_zero]
  iterate 3 (apply keep_yes; (· rfl); (· (intro w' hJ; (try obtain ⟨hc', hf'⟩ := bcell hJ); refine gives_of (by (go_simp; rfl)) rfl hJ)); simp only [Act.put, List.setIfInBounds_toArray, List.set_cons_zero, List.set_cons_succ])
  refine keep_nil ?_
  intro W hbW
  have f6d := f6.below hbW
  have hbd : Below w1.heap.size w1 W := hb3.trans (hbW.mono (by omega))
  have F := leaf_end (t := t) h HC1.out rfl HT1.out hbd (HF.out.below hbd) (by omega)
  have r5 : Row (st4 W (w.heap.size + 1) t) (w.heap.size + 1) 0 [i64 t.kind, i64 t.page, i64 t.seq, i64 t.epoch] := by
    have := (((f6d.setCell 0 (i64 t.kind)).setCell 1 (i64 t.page)).setCell 2 (i64 t.seq)).setCell 3 (i64 t.epoch)
    simpa [st4] using this
  have FH := Lib.hid F
  obtain ⟨s0, s1, s2, s3⟩ := f6d.four
  obtain ⟨u0, u1, u2, u3⟩ := f6d.four'
  clear F r5 f11 f6 g0 g1 g2 g3
  go_wp2_with fail
  exact bodyPost_ret (v := .tuple #[v, .agg #[i64 t.kind, i64 t.page, i64 t.seq, i64 t.epoch], i64 0]) (by simp [results, Tryz.results63, go_sem, *]) rfl (by exact ⟨⟨v, rfl, FH.out.1⟩, FH.out.2.1, FH.out.2.2⟩)
end Go.Proofs.YthghhcnpbehaiaaGreat

/- leaf: what an erased page holds. -/
namespace Go.Proofs.YthghhcnpbehaiaaGreat
open Go.RowKit
def tag0 : Tag := ⟨0, 0, 0, 0⟩
theorem leaf_end0 {w w1 W : World} {A : CA} {C C' : Chip} {t : Tag} (h : ChipAt w A C) (h1 : ChipAt w1 A C') (hfs : C.fs = C'.fs) (ht : Turns A.foot w w1) (hb : Below w1.heap.size w1 W) (hlt : w.heap.size + 1 < w1.heap.size) :
    ChipAt (st4 W (w.heap.size + 1) t) A C' ∧ Turns A.foot w (st4 W (w.heap.size + 1) t) := by
  refine ⟨?_, ?_⟩
  · have hT : Turns (fun k => k = w.heap.size + 1) W (st4 W (w.heap.size + 1) t) := by
      have h0 : (fun k => k = w.heap.size + 1) (w.heap.size + 1) := rfl
      unfold st4
      refine Turns.setCell (Turns.setCell (Turns.setCell (Turns.setCell (Turns.refl _ W) (.inl ?_) _) (.inl ?_) _) (.inl ?_) _) (.inl ?_) _ <;> exact h0
    exact (h1.below hb).turns2 h hfs hT (fun k hk => by subst hk; omega)
  · have hr : w.heap.size ≤ w.heap.size + 1 := by omega
    exact ((((ht.trans (Turns.of_below hb)).setCell (.inr hr) _).setCell (.inr hr) _).setCell (.inr hr) _).setCell (.inr hr) _

set_option maxHeartbeats 2000000 in
set_option maxRecDepth 100000 in
theorem look104e {w : World} {A : CA} {C : Chip} (h : ChipAt w A C) (p : Plc) (b : Blk) (hp : C.g.isB p = true) (hbk : C.at p.b = some b) (hoff : C.off = false) (ht : C.turn = 0) (ho : C.ops < 4611686018427387903)
    (hpg : b.page p.p.toNat (C.g.Y + 16).toNat = List.replicate (C.g.Y + 16).toNat 255) :
    Calls Tryz.prog 104 #[ptr A.c, .agg #[i64 p.b, i64 p.p]] w fun e w' => e = .returned (.tuple #[.slice none 0 0, .agg #[i64 0, i64 0, i64 0, i64 0], i64 0, i64 0]) ∧ ChipAt w' A { C with ops := C.ops + 1 } ∧ Turns A.foot w w' := by
  have hgo := (Geo.ok_iff _).1 h.ok
  obtain ⟨n, hn⟩ : ∃ n : Nat, (C.g.Y + 16).toNat = n := ⟨_, rfl⟩
  have hn2 : 40 ≤ n ∧ n ≤ 80 := by have := hgo.y1; have := hgo.y2; omega
  rw [hn] at hpg
  have HN := Lib.hid hn
  clear hgo hn
  have l1 : A.c < w.heap.size := h.flt (.inl rfl)
  have hnfo : ∀ k, w.heap.size ≤ k → ¬ A.foot k := fun k hk hf => by have := h.flt hf; omega
  have HPG := Lib.hid hpg
  have HNF := Lib.hid hnfo
  clear hpg hnfo
  go_enter Tryz.func104, Tryz.ntmps104
  go_wp2_with fail
  refine (read43 (h.below (by (repeat (first | exact Below.refl _ _ | assumption | (with_reducible refine Below.drew ?_) | (with_reducible refine below_drewN' ?_ _) | (with_reducible refine ext_alloc ?_ ?_; · (first | omega | (simp only [World.size_alloc, World.size_setCell, World.size_drew, World.heap_drewN]; omega) | (simp; omega))) | (with_reducible refine ext_setCell ?_ ?_; · (first | omega | (simp only [World.size_alloc, World.size_setCell, World.size_drew, World.heap_drewN]; omega) | (simp; omega))) | (refine ext_call (by assumption) ?_ ?_; · (first | omega | (simp only [World.size_alloc, World.size_setCell, World.size_drew, World.heap_drewN]; omega) | (simp; omega))))))) p b hp hbk hoff ht ho).mono ?_
  rw [HN.out, HPG.out]
  rintro e w1 ⟨⟨v, rfl, hf⟩, hC1, ht1⟩
  have zt := ht1.size
  simp only [World.size_alloc] at zt hf
  have f5 : Row w1 (w.heap.size + 1) 0 [i64 0, i64 0, i64 0, i64 0] := by
    have := (Row.new (w.alloc (.cells #[i64 p.b, i64 p.p] 75)) #[i64 0, i64 0, i64 0, i64 0] 105).turns ht1 (HNF.out _ (by simp))
    simpa using this
  have hT1 : Turns A.foot w w1 := (((Turns.refl _ w).alloc _).alloc _).trans ht1
  obtain ⟨g, c, rfl, g1, g2, g3, g4⟩ := hf
  have hrl : (List.replicate n (255 : Int)).length = n := by simp
  have hread := read144_erased n hn2 g 0 c w1 g4
  rw [hrl] at g3
  simp only [hrl]
  have HREAD := Lib.hid hread
  have HC1 := Lib.hid hC1
  have HT1 := Lib.hid hT1
  clear hread hC1 hT1 ht1 g4 hrl
  go_wp2_with fail
  refine HREAD.out.mono ?_
  rintro e w2 ⟨rfl, hb2⟩
  have z2 := hb2.size
  have f5' := f5.below hb2
  clear f5
  have lt5 : w.heap.size + 1 < w2.heap.size := f5'.lt (by simp)
  go_wp2_with fail
  have f11 : Row (w2.alloc (.cells #[i64 0, i64 0, i64 0, i64 0] 105)) w2.heap.size 0 [i64 0, i64 0, i64 0, i64 0] := Row.new _ _ _
  have f6 := f5'.alloc (.cells #[i64 0, i64 0, i64 0, i64 0] 105)
  have hb3 : Below w1.heap.size w1 (w2.alloc (.cells #[i64 0, i64 0, i64 0, i64 0] 105)) := hb2.alloc z2 _
  generalize w2.alloc (.cells #[i64 0, i64 0, i64 0, i64 0] 105) = w3 at *
  have f11d : Row w3.drew w2.heap.size 0 [i64 0, i64 0, i64 0, i64 0] := f11
  have f6d : Row w3.drew (w.heap.size + 1) 0 [i64 0, i64 0, i64 0, i64 0] := f6
  have hb3d : Below w1.heap.size w1 w3.drew := hb3.drew
  have hne : w2.heap.size ≠ w.heap.size + 1 := by omega
  obtain ⟨W, hW⟩ : ∃ W, w3.drew = W := ⟨_, rfl⟩
  rw [hW] at f11d f6d hb3d
  apply wp_region_rel 5 (fun e w' => Hid (w' = (match e 4 with | none => W | some _ => st4 W (w.heap.size + 1) tag0))) [[], [], [], [0], [1]]
  · kernel_rfl
  · kernel_rfl
  · exact hW
  · kernel_rfl
  simp only [List.take_succ_cons, List.take_zero, List.drop_succ_cons, List.drop_zero]
  have hk : ∀ (e' : Env) w', Hid (w' = (match e' 4 with | none => W | some _ => st4 W (w.heap.size + 1) tag0)) → Row w' w2.heap.size 0 [i64 0, i64 0, i64 0, i64 0] := fun e' w' hJ => by
    have hJ := hJ.out
    subst hJ
    cases e' 4
    · exact f11d
    · exact (((f11d.setCell_ne (by exact Ne.symm hne) _).setCell_ne (by exact Ne.symm hne) _).setCell_ne (by exact Ne.symm hne) _).setCell_ne (by exact Ne.symm hne) _
  iterate 1 (apply rel_val; (· rfl); (· (intro e' w' hD he hJ; skip; refine relv_of (by (go_simp; first | rfl | exact ⟨rfl, rfl⟩)) ⟨rfl, ?_⟩; exact hJ)); simp only [Act.put, List.setIfInBounds_toArray, List.set_cons_zero, List.set_cons_succ])
  (apply rel_val (v := .agg #[i64 0, i64 0, i64 0, i64 0]); (· rfl); (· (intro e' w' hD he hJ; obtain ⟨g0', g1', g2', g3'⟩ := (hk e' w' hJ).four; refine relv_of (u := .agg #[i64 0, i64 0, i64 0, i64 0]) (w := w') (by go_simp) ⟨rfl, ?_⟩; exact hJ)); simp only [Act.put, List.setIfInBounds_toArray, List.set_cons_zero, List.set_cons_succ])
  iterate 2 (apply rel_val; (· rfl); (· (intro e' w' hD he hJ; skip; refine relv_of (by (go_simp; first | rfl | exact ⟨rfl, rfl⟩)) ⟨rfl, ?_⟩; exact hJ)); simp only [Act.put, List.setIfInBounds_toArray, List.set_cons_zero, List.set_cons_succ])
  apply rel_val (v := undef)
  · rfl
  · intro e' w' hD he hJ
    rw [he] at hJ
    have hJ : w' = W := hJ.out
    subst hJ
    obtain ⟨g0', g1', g2', g3'⟩ := f6d.four
    obtain ⟨u0', u1', u2', u3'⟩ := f6d.four'
    go_simp
    exact ⟨rfl, rfl⟩
  simp only [Act.put, List.setIfInBounds_toArray, List.set_cons_zero, List.set_cons_succ]
  apply rel_nil
  intro w5 hJ
  have hJ : w5 = st4 W (w.heap.size + 1) tag0 := hJ.out
  have F := leaf_end0 (t := tag0) h HC1.out rfl HT1.out hb3d (by omega)
  rw [← hJ] at F
  have r5 : Row w5 (w.heap.size + 1) 0 [i64 0, i64 0, i64 0, i64 0] := by
    rw [hJ]
    have := (((f6d.setCell 0 (i64 0)).setCell 1 (i64 0)).setCell 2 (i64 0)).setCell 3 (i64 0)
    simpa [st4, tag0] using this
  have FH := Lib.hid F
  have s0 := r5.cell0 0 rfl
  have s1 := r5.cell0 1 rfl
  have s2 := r5.cell0 2 rfl
  have s3 := r5.cell0 3 rfl
  clear F hJ hk f11d f6d
  go_wp2_with fail
  exact bodyPost_ret (v := .tuple #[.slice none 0 0, .agg #[i64 0, i64 0, i64 0, i64 0], i64 0, i64 0]) (by simp [results, Tryz.results104, go_sem, *]) rfl (by exact ⟨rfl, FH.out.1, FH.out.2⟩)


set_option maxHeartbeats 2000000 in
set_option maxRecDepth 100000 in
theorem load63e {w : World} {A : CA} {C : Chip} (h : ChipAt w A C) (p : Plc) (b : Blk) (hp : C.g.isB p = true) (hbk : C.at p.b = some b) (hoff : C.off = false) (ht : C.turn = 0) (ho : C.ops < 4611686018427387903)
    (hpg : b.page p.p.toNat (C.g.Y + 16).toNat = List.replicate (C.g.Y + 16).toNat 255) :
    Calls Tryz.prog 63 #[ptr A.c, .agg #[i64 p.b, i64 p.p]] w fun e w' => e = .returned (.tuple #[.slice none 0 0, .agg #[i64 0, i64 0, i64 0, i64 0], i64 5]) ∧ ChipAt w' A { C with ops := C.ops + 1 } ∧ Turns A.foot w w' := by
  have l1 : A.c < w.heap.size := h.flt (.inl rfl)
  have hnfo : ∀ k, w.heap.size ≤ k → ¬ A.foot k := fun k hk hf => by have := h.flt hf; omega
  have HNF := Lib.hid hnfo
  clear hnfo
  go_enter Tryz.func63, Tryz.ntmps63
  go_wp2_with fail
  refine (look104e (h.below (by (repeat (first | exact Below.refl _ _ | assumption | (with_reducible refine Below.drew ?_) | (with_reducible refine below_drewN' ?_ _) | (with_reducible refine ext_alloc ?_ ?_; · (first | omega | (simp only [World.size_alloc, World.size_setCell, World.size_drew, World.heap_drewN]; omega) | (simp; omega))) | (with_reducible refine ext_setCell ?_ ?_; · (first | omega | (simp only [World.size_alloc, World.size_setCell, World.size_drew, World.heap_drewN]; omega) | (simp; omega))) | (refine ext_call (by assumption) ?_ ?_; · (first | omega | (simp only [World.size_alloc, World.size_setCell, World.size_drew, World.heap_drewN]; omega) | (simp; omega))))))) p b hp hbk hoff ht ho hpg).mono ?_
  rintro e w1 ⟨rfl, hC1, ht1⟩
  have zt := ht1.size
  simp only [World.size_alloc] at zt
  have f5 : Row w1 (w.heap.size + 1) 0 [i64 0, i64 0, i64 0, i64 0] := by
    have := (Row.new (w.alloc (.cells #[i64 p.b, i64 p.p] 75)) #[i64 0, i64 0, i64 0, i64 0] 105).turns ht1 (HNF.out _ (by simp))
    simpa using this
  have hT1 : Turns A.foot w w1 := (((Turns.refl _ w).alloc _).alloc _).trans ht1
  have lt5 : w.heap.size + 1 < w1.heap.size := f5.lt (by simp)
  have F := leaf_end0 (t := tag0) h hC1 rfl hT1 (Below.refl _ _) (by omega)
  have FH := Lib.hid F
  obtain ⟨s0, s1, s2, s3⟩ := f5.four
  obtain ⟨u0, u1, u2, u3⟩ := f5.four'
  clear F hC1 hT1 ht1 f5
  go_wp2_with fail
  exact bodyPost_ret (v := .tuple #[.slice none 0 0, .agg #[i64 0, i64 0, i64 0, i64 0], i64 5]) (by simp [results, Tryz.results63, go_sem, *]) rfl (by exact ⟨rfl, FH.out.1.below ((Below.refl _ _).alloc (Nat.le_refl _) _), FH.out.2.alloc _⟩)
end Go.Proofs.YthghhcnpbehaiaaGreat
