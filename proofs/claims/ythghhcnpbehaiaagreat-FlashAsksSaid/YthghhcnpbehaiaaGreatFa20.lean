/- slices.Index of true. -/
import Derived.Test.YthghhcnpbehaiaaGreatFa15

namespace Go.Proofs.YthghhcnpbehaiaaGreat
open Go.RowKit

/-- The first that is so; -1: there is none. -/
def fstOf (p : Nat → Bool) (n : Nat) : Int := (((List.range n).find? p).map fun (k : Nat) => (k : Int)).getD (-1)
theorem fstOf_none {p : Nat → Bool} {n : Nat} (h : ∀ k, k < n → p k = false) : fstOf p n = -1 := by
  have : (List.range n).find? p = none := by
    rw [List.find?_eq_none]; intro x hx; rw [h x (by simpa using hx)]; simp
  simp [fstOf, this]
theorem fstOf_some {p : Nat → Bool} {n k : Nat} (hk : k < n) (h : p k = true) (hl : ∀ j, j < k → p j = false) : fstOf p n = k := by
  have : (List.range n).find? p = some k := by
    rw [List.find?_range_eq_some]; exact ⟨h, by simpa using hk, fun j hj => by rw [hl j hj]; rfl⟩
  simp [fstOf, this]

set_option maxHeartbeats 2000000 in
set_option maxRecDepth 100000 in
theorem index193 (p : Nat → Bool) (n : Nat) (hn : n ≤ 100) (g cap : Nat) (w : World) (hr : Row w g 0 ((these p n).map Value.bool)) :
    Calls Tryz.prog 193 #[.slice (some ⟨g, 0, none⟩) n cap, .bool true] w fun e w' => e = .returned (i64 (fstOf p n)) ∧ w = w' := by
  go_enter Tryz.func193, Tryz.ntmps193
  go_wp2_with fail
  go_loopw [8] (fun i wr => ∃ k : Nat, k ≤ n ∧ i = .int .i64 k ∧ wr = w ∧ Hid (∀ j, j < k → p j = false)) (fun i _ => n - (RowKit.intOf i).toNat)
  case atStart => exact ⟨0, Nat.zero_le _, rfl, rfl, fun j h => absurd h (by omega)⟩
  case round =>
    obtain ⟨k, hk, rfl, rfl, hall⟩ := hrel
    have k0 : (0 : Int) ≤ (k : Int) := by omega
    have hkw : IntKind.i64.wrap ((k : Int) + 1) = ((k + 1 : Nat) : Int) := by rw [IntWalk.i64_in _ (by omega)]; omega
    by_cases hlt : k < n
    · have c0 : wr.cell? ⟨g, k, none⟩ = some (.bool (p k)) := hr.cell0 k (these_get hlt)
      cases hbb : p k
      · rw [hbb] at c0
        have HB := Lib.hid hbb
        clear hbb
        go_wp2_with fail
        refine ⟨⟨k + 1, by omega, ?_, trivial, fun j hj => ?_⟩, by simp [RowKit.intOf]; omega⟩
        · first | rfl | (congr 1; done) | (congr 1; omega)
        · by_cases hjk : j = k
          · subst hjk; exact HB.out
          · exact hall.out j (by omega)
      · rw [hbb] at c0
        have HB := Lib.hid hbb
        clear hbb
        go_wp2_with fail
        go_ret
        exact ⟨by rw [fstOf_some hlt HB.out hall.out]; rfl, rfl⟩
    · have hkl : k = n := by omega
      subst hkl
      go_wp2_with fail
      go_ret
      exact ⟨by rw [fstOf_none hall.out]; rfl, rfl⟩
end Go.Proofs.YthghhcnpbehaiaaGreat

/- wear: least and most. -/
namespace Go.Proofs.YthghhcnpbehaiaaGreat
open Go.RowKit

set_option maxHeartbeats 2000000 in
set_option maxRecDepth 100000 in
theorem counts200 (p : Nat → Bool) (n k : Nat) (hk : k < n) (hn : n ≤ 100) (a : Option Addr) (c1 g c2 : Nat) (w : World) (hr : Row w g 0 ((these p n).map Value.bool)) :
    Calls Tryz.prog 200 #[.slice a n c1, .slice (some ⟨g, 0, none⟩) n c2, i64 k] w fun e w' => e = .returned (.bool (p k)) ∧ w = w' := by
  have k0 : (0 : Int) ≤ (k : Int) := by omega
  have k1 : (k : Int) < (n : Int) := by omega
  have c0 : w.cell? ⟨g, k, none⟩ = some (.bool (p k)) := hr.cell0 k (these_get hk)
  go_enter Tryz.func200, Tryz.ntmps200
  go_wp2_with fail
  go_ret
  exact ⟨rfl, rfl⟩

theorem less165 (x y : Int) (w : World) : Calls Tryz.prog 165 #[i64 x, i64 y] w fun e w' => e = .returned (.bool (decide (x < y))) ∧ w = w' := by
  go_enter Tryz.func165, Tryz.ntmps165
  go_wp2
  go_ret
  exact ⟨rfl, rfl⟩
theorem more222 (x y : Int) (w : World) : Calls Tryz.prog 222 #[i64 x, i64 y] w fun e w' => e = .returned (.bool (decide (y < x))) ∧ w = w' := by
  go_enter Tryz.func222, Tryz.ntmps222
  go_wp2
  go_ret
  exact ⟨rfl, rfl⟩

/-- The first of the best among those that count, of the first k; -1: there is none. -/
def bestOf (lt : Int → Int → Bool) (ws : Nat → Int) (p : Nat → Bool) : Nat → Int
  | 0 => -1
  | k + 1 => if p k && (decide (bestOf lt ws p k < 0) || lt (ws k) (ws (bestOf lt ws p k).toNat)) then (k : Int) else bestOf lt ws p k
end Go.Proofs.YthghhcnpbehaiaaGreat

/- wear.best. -/
namespace Go.Proofs.YthghhcnpbehaiaaGreat
open Go.RowKit

theorem bestOf_range (lt : Int → Int → Bool) (ws : Nat → Int) (p : Nat → Bool) : ∀ k, bestOf lt ws p k = -1 ∨ (0 ≤ bestOf lt ws p k ∧ bestOf lt ws p k < k ∧ p (bestOf lt ws p k).toNat = true)
  | 0 => .inl rfl
  | k + 1 => by
    rw [bestOf]
    split
    · rename_i h
      simp only [Bool.and_eq_true] at h
      exact .inr ⟨by omega, by omega, by simpa using h.1⟩
    · rcases bestOf_range lt ws p k with h | ⟨h1, h2, h3⟩
      · exact .inl h
      · exact .inr ⟨h1, by omega, h3⟩

set_option maxHeartbeats 2000000 in
set_option maxRecDepth 100000 in
theorem best164 (fn : FuncId) (hfn : fn = 165 ∨ fn = 222) (lt : Int → Int → Bool) (hlt : ∀ x y wx, Calls Tryz.prog fn #[i64 x, i64 y] wx fun e w' => e = .returned (.bool (lt x y)) ∧ wx = w')
    (ws : Nat → Int) (p : Nat → Bool) (n : Nat) (hn : n ≤ 100) (b c1 g c2 : Nat) (w : World) (hw : Row w b 0 (((List.range n).map ws).map i64)) (hr : Row w g 0 ((these p n).map Value.bool)) :
    Calls Tryz.prog 164 #[.slice (some ⟨b, 0, none⟩) n c1, .slice (some ⟨g, 0, none⟩) n c2, .func (Fn.func fn) #[] #[]] w fun e w' => e = .returned (i64 (bestOf lt ws p n)) ∧ Below w.heap.size w w' := by
  have HW := Lib.hid hw
  have HR := Lib.hid hr
  have HL := Lib.hid hlt
  clear hw hr hlt
  go_enter Tryz.func164, Tryz.ntmps164
  go_wp2_with fail
  go_loopw [7, 11] (fun r i wr => ∃ k : Nat, k ≤ n ∧ r = .int .i64 (bestOf lt ws p k) ∧ i = .int .i64 k ∧ Below w.heap.size w wr) (fun _ i _ => n - (RowKit.intOf i).toNat)
  case atStart => exact ⟨0, Nat.zero_le _, rfl, rfl, Below.refl _ _⟩
  case round =>
    obtain ⟨k, hk, rfl, rfl, hbr⟩ := hrel
    have k0 : (0 : Int) ≤ (k : Int) := by omega
    have hkw : IntKind.i64.wrap ((k : Int) + 1) = ((k + 1 : Nat) : Int) := by rw [IntWalk.i64_in _ (by omega)]; omega
    have hrg := bestOf_range lt ws p k
    have hstep : bestOf lt ws p (k + 1) = if p k && (decide (bestOf lt ws p k < 0) || lt (ws k) (ws (bestOf lt ws p k).toNat)) then (k : Int) else bestOf lt ws p k := rfl
    generalize hm : bestOf lt ws p k = m at *
    have HM := Lib.hid hm
    clear hm
    by_cases hlt : k < n
    · cases hbb : p k
      · rw [hbb] at hstep
        have HS := Lib.hid hstep
        clear hstep
        have hct : ∀ wx, Below wr.heap.size wr wx → Calls Tryz.prog 200 #[.slice (some ⟨b, 0, none⟩) n c1, .slice (some ⟨g, 0, none⟩) n c2, i64 k] wx fun e w' => e = .returned (.bool false) ∧ wx = w' := fun wx hb => by
          have := counts200 p n k hlt hn (some ⟨b, 0, none⟩) c1 g c2 wx ((HR.out.below hbr).below hb)
          rw [hbb] at this; exact this
        have HCT := Lib.hid hct
        clear hct
        go_wp2_with fail
        refine wp_region_keep 19 (fun wJ => Below (wr).heap.size (wr) wJ) (by kernel_rfl) (by kernel_rfl) (by (repeat (first | exact Below.refl _ _ | assumption | (with_reducible refine Below.drew ?_) | (with_reducible refine below_drewN' ?_ _) | (with_reducible refine ext_alloc ?_ ?_; · (first | omega | (simp only [World.size_alloc, World.size_setCell, World.size_drew, World.heap_drewN]; omega) | (simp; omega))) | (with_reducible refine ext_setCell ?_ ?_; · (first | omega | (simp only [World.size_alloc, World.size_setCell, World.size_drew, World.heap_drewN]; omega) | (simp; omega))) | (refine ext_call (by assumption) ?_ ?_; · (first | omega | (simp only [World.size_alloc, World.size_setCell, World.size_drew, World.heap_drewN]; omega) | (simp; omega)))))) ?_
        simp only [List.take_succ_cons, List.take_zero, List.drop_succ_cons, List.drop_zero]
        iterate 3 (apply keep_yes; (· rfl); (· (intro w' hJ; (try obtain ⟨hc', hf'⟩ := bcell hJ); refine gives_of (by (go_simp; rfl)) rfl hJ)); simp only [Act.put, List.setIfInBounds_toArray, List.set_cons_zero, List.set_cons_succ])
        (apply keep_yes; (· rfl); (· (intro w' hJ; refine gives_call (v := .bool false) (by (go_simp; first | rfl | exact ⟨⟨rfl, rfl⟩, rfl⟩)) ?_; refine (HCT.out _ hJ).mono ?_; rintro e w'' ⟨rfl, rfl⟩; exact ⟨rfl, hJ⟩)); simp only [Act.put, List.setIfInBounds_toArray, List.set_cons_zero, List.set_cons_succ])
        (apply keep_yes; (· rfl); (· (intro w' hJ; (try obtain ⟨hc', hf'⟩ := bcell hJ); refine gives_of (by (go_simp; rfl)) rfl hJ)); simp only [Act.put, List.setIfInBounds_toArray, List.set_cons_zero, List.set_cons_succ])
        iterate 14 (refine keep_no (by rfl) ?_; simp only [Act.put, List.setIfInBounds_toArray, List.set_cons_zero, List.set_cons_succ])
        refine keep_nil ?_
        intro w1 hb1
        go_wp2_with fail
        refine ⟨⟨k + 1, by omega, by rw [HS.out]; rfl, ?_, ext_call hb1 hbr.size hbr⟩, by simp [RowKit.intOf]; omega⟩
        first | rfl | (congr 1; done) | (congr 1; omega)
      · have hct : ∀ wx, Below wr.heap.size wr wx → Calls Tryz.prog 200 #[.slice (some ⟨b, 0, none⟩) n c1, .slice (some ⟨g, 0, none⟩) n c2, i64 k] wx fun e w' => e = .returned (.bool true) ∧ wx = w' := fun wx hb => by
          have := counts200 p n k hlt hn (some ⟨b, 0, none⟩) c1 g c2 wx ((HR.out.below hbr).below hb)
          rw [hbb] at this; exact this
        have HCT := Lib.hid hct
        clear hct
        rw [hbb] at hstep
        rcases hrg with rfl | ⟨m0, m1, m2⟩
        · have hs2 : bestOf lt ws p (k + 1) = k := by rw [hstep]; simp
          have HS := Lib.hid hs2
          clear hstep hs2
          go_wp2_with fail
          refine wp_region_keep 19 (fun wJ => Below (wr).heap.size (wr) wJ) (by kernel_rfl) (by kernel_rfl) (by (repeat (first | exact Below.refl _ _ | assumption | (with_reducible refine Below.drew ?_) | (with_reducible refine below_drewN' ?_ _) | (with_reducible refine ext_alloc ?_ ?_; · (first | omega | (simp only [World.size_alloc, World.size_setCell, World.size_drew, World.heap_drewN]; omega) | (simp; omega))) | (with_reducible refine ext_setCell ?_ ?_; · (first | omega | (simp only [World.size_alloc, World.size_setCell, World.size_drew, World.heap_drewN]; omega) | (simp; omega))) | (refine ext_call (by assumption) ?_ ?_; · (first | omega | (simp only [World.size_alloc, World.size_setCell, World.size_drew, World.heap_drewN]; omega) | (simp; omega)))))) ?_
          simp only [List.take_succ_cons, List.take_zero, List.drop_succ_cons, List.drop_zero]
          iterate 3 (apply keep_yes; (· rfl); (· (intro w' hJ; (try obtain ⟨hc', hf'⟩ := bcell hJ); refine gives_of (by (go_simp; rfl)) rfl hJ)); simp only [Act.put, List.setIfInBounds_toArray, List.set_cons_zero, List.set_cons_succ])
          (apply keep_yes; (· rfl); (· (intro w' hJ; refine gives_call (v := .bool true) (by (go_simp; first | rfl | exact ⟨⟨rfl, rfl⟩, rfl⟩)) ?_; refine (HCT.out _ hJ).mono ?_; rintro e w'' ⟨rfl, rfl⟩; exact ⟨rfl, hJ⟩)); simp only [Act.put, List.setIfInBounds_toArray, List.set_cons_zero, List.set_cons_succ])
          iterate 4 (apply keep_yes; (· rfl); (· (intro w' hJ; (try obtain ⟨hc', hf'⟩ := bcell hJ); refine gives_of (by (go_simp; rfl)) rfl hJ)); simp only [Act.put, List.setIfInBounds_toArray, List.set_cons_zero, List.set_cons_succ])
          iterate 10 (refine keep_no (by rfl) ?_; simp only [Act.put, List.setIfInBounds_toArray, List.set_cons_zero, List.set_cons_succ])
          (apply keep_yes; (· rfl); (· (intro w' hJ; (try obtain ⟨hc', hf'⟩ := bcell hJ); refine gives_of (by (go_simp; rfl)) rfl hJ)); simp only [Act.put, List.setIfInBounds_toArray, List.set_cons_zero, List.set_cons_succ])
          refine keep_nil ?_
          intro w1 hb1
          go_wp2_with fail
          refine ⟨⟨k + 1, by omega, by rw [HS.out], ?_, ext_call hb1 hbr.size hbr⟩, by simp [RowKit.intOf]; omega⟩
          first | rfl | (congr 1; done) | (congr 1; omega)
        · obtain ⟨q, rfl⟩ := Int.eq_ofNat_of_zero_le m0
          have hqn : q < n := by omega
          have hq0 : (0 : Int) ≤ (q : Int) := by omega
          have hq1 : ¬ ((q : Int) < 0) := by omega
          have hqn' : (q : Int) < (n : Int) := by omega
          have hkn' : (k : Int) < (n : Int) := by omega
          have hWr := HW.out.below hbr
          have d1 : wr.cell? ⟨b, k, none⟩ = some (i64 (ws k)) := hWr.cell0 k (by simp [hlt])
          have d2 : wr.cell? ⟨b, q, none⟩ = some (i64 (ws q)) := hWr.cell0 q (by simp [hqn])
          have lb : b < wr.heap.size := World.block_lt_of_cell? _ _ d1
          clear hWr
          cases hlv : lt (ws k) (ws q)
          · have hs2 : bestOf lt ws p (k + 1) = q := by rw [hstep]; simp [hlv, hq1]
            have HS := Lib.hid hs2
            have hcl : ∀ wx, Calls Tryz.prog fn #[i64 (ws k), i64 (ws q)] wx fun e w' => e = .returned (.bool false) ∧ wx = w' := fun wx => by have := HL.out (ws k) (ws q) wx; rw [hlv] at this; exact this
            have HCL := Lib.hid hcl
            clear hstep hs2 hcl
            rcases hfn with rfl | rfl
            all_goals
              go_wp2_with fail
              refine wp_region_keep 19 (fun wJ => Below (wr).heap.size (wr) wJ) (by kernel_rfl) (by kernel_rfl) (by (repeat (first | exact Below.refl _ _ | assumption | (with_reducible refine Below.drew ?_) | (with_reducible refine below_drewN' ?_ _) | (with_reducible refine ext_alloc ?_ ?_; · (first | omega | (simp only [World.size_alloc, World.size_setCell, World.size_drew, World.heap_drewN]; omega) | (simp; omega))) | (with_reducible refine ext_setCell ?_ ?_; · (first | omega | (simp only [World.size_alloc, World.size_setCell, World.size_drew, World.heap_drewN]; omega) | (simp; omega))) | (refine ext_call (by assumption) ?_ ?_; · (first | omega | (simp only [World.size_alloc, World.size_setCell, World.size_drew, World.heap_drewN]; omega) | (simp; omega)))))) ?_
              simp only [List.take_succ_cons, List.take_zero, List.drop_succ_cons, List.drop_zero]
              iterate 3 (apply keep_yes; (· rfl); (· (intro w' hJ; (try obtain ⟨hc', hf'⟩ := bcell hJ); refine gives_of (by (go_simp; rfl)) rfl hJ)); simp only [Act.put, List.setIfInBounds_toArray, List.set_cons_zero, List.set_cons_succ])
              (apply keep_yes; (· rfl); (· (intro w' hJ; refine gives_call (v := .bool true) (by (go_simp; first | rfl | exact ⟨⟨rfl, rfl⟩, rfl⟩)) ?_; refine (HCT.out _ hJ).mono ?_; rintro e w'' ⟨rfl, rfl⟩; exact ⟨rfl, hJ⟩)); simp only [Act.put, List.setIfInBounds_toArray, List.set_cons_zero, List.set_cons_succ])
              iterate 13 (apply keep_yes; (· rfl); (· (intro w' hJ; (try obtain ⟨hc', hf'⟩ := bcell hJ); refine gives_of (by (go_simp; rfl)) rfl hJ)); simp only [Act.put, List.setIfInBounds_toArray, List.set_cons_zero, List.set_cons_succ])
              (apply keep_yes; (· rfl); (· (intro w' hJ; refine gives_call (v := .bool false) (by (go_simp; first | rfl | exact ⟨⟨rfl, rfl⟩, rfl⟩)) ?_; refine (HCL.out _).mono ?_; rintro e w'' ⟨rfl, rfl⟩; exact ⟨rfl, hJ⟩)); simp only [Act.put, List.setIfInBounds_toArray, List.set_cons_zero, List.set_cons_succ])
              (apply keep_yes; (· rfl); (· (intro w' hJ; (try obtain ⟨hc', hf'⟩ := bcell hJ); refine gives_of (by (go_simp; rfl)) rfl hJ)); simp only [Act.put, List.setIfInBounds_toArray, List.set_cons_zero, List.set_cons_succ])
              refine keep_nil ?_
              intro w1 hb1
              go_wp2_with fail
              refine ⟨⟨k + 1, by omega, by rw [HS.out], ?_, ext_call hb1 hbr.size hbr⟩, by simp [RowKit.intOf]; omega⟩
              first | rfl | (congr 1; done) | (congr 1; omega)
          · have hs2 : bestOf lt ws p (k + 1) = k := by rw [hstep]; simp [hlv]
            have HS := Lib.hid hs2
            have hcl : ∀ wx, Calls Tryz.prog fn #[i64 (ws k), i64 (ws q)] wx fun e w' => e = .returned (.bool true) ∧ wx = w' := fun wx => by have := HL.out (ws k) (ws q) wx; rw [hlv] at this; exact this
            have HCL := Lib.hid hcl
            clear hstep hs2 hcl
            rcases hfn with rfl | rfl
            all_goals
              go_wp2_with fail
              refine wp_region_keep 19 (fun wJ => Below (wr).heap.size (wr) wJ) (by kernel_rfl) (by kernel_rfl) (by (repeat (first | exact Below.refl _ _ | assumption | (with_reducible refine Below.drew ?_) | (with_reducible refine below_drewN' ?_ _) | (with_reducible refine ext_alloc ?_ ?_; · (first | omega | (simp only [World.size_alloc, World.size_setCell, World.size_drew, World.heap_drewN]; omega) | (simp; omega))) | (with_reducible refine ext_setCell ?_ ?_; · (first | omega | (simp only [World.size_alloc, World.size_setCell, World.size_drew, World.heap_drewN]; omega) | (simp; omega))) | (refine ext_call (by assumption) ?_ ?_; · (first | omega | (simp only [World.size_alloc, World.size_setCell, World.size_drew, World.heap_drewN]; omega) | (simp; omega)))))) ?_
              simp only [List.take_succ_cons, List.take_zero, List.drop_succ_cons, List.drop_zero]
              iterate 3 (apply keep_yes; (· rfl); (· (intro w' hJ; (try obtain ⟨hc', hf'⟩ := bcell hJ); refine gives_of (by (go_simp; rfl)) rfl hJ)); simp only [Act.put, List.setIfInBounds_toArray, List.set_cons_zero, List.set_cons_succ])
              (apply keep_yes; (· rfl); (· (intro w' hJ; refine gives_call (v := .bool true) (by (go_simp; first | rfl | exact ⟨⟨rfl, rfl⟩, rfl⟩)) ?_; refine (HCT.out _ hJ).mono ?_; rintro e w'' ⟨rfl, rfl⟩; exact ⟨rfl, hJ⟩)); simp only [Act.put, List.setIfInBounds_toArray, List.set_cons_zero, List.set_cons_succ])
              iterate 13 (apply keep_yes; (· rfl); (· (intro w' hJ; (try obtain ⟨hc', hf'⟩ := bcell hJ); refine gives_of (by (go_simp; rfl)) rfl hJ)); simp only [Act.put, List.setIfInBounds_toArray, List.set_cons_zero, List.set_cons_succ])
              (apply keep_yes; (· rfl); (· (intro w' hJ; refine gives_call (v := .bool true) (by (go_simp; first | rfl | exact ⟨⟨rfl, rfl⟩, rfl⟩)) ?_; refine (HCL.out _).mono ?_; rintro e w'' ⟨rfl, rfl⟩; exact ⟨rfl, hJ⟩)); simp only [Act.put, List.setIfInBounds_toArray, List.set_cons_zero, List.set_cons_succ])
              (apply keep_yes; (· rfl); (· (intro w' hJ; (try obtain ⟨hc', hf'⟩ := bcell hJ); refine gives_of (by (go_simp; rfl)) rfl hJ)); simp only [Act.put, List.setIfInBounds_toArray, List.set_cons_zero, List.set_cons_succ])
              refine keep_nil ?_
              intro w1 hb1
              go_wp2_with fail
              refine ⟨⟨k + 1, by omega, by rw [HS.out], ?_, ext_call hb1 hbr.size hbr⟩, by simp [RowKit.intOf]; omega⟩
              first | rfl | (congr 1; done) | (congr 1; omega)
    · have hkl : k = n := by omega
      subst hkl
      go_wp2_with fail
      go_ret
      refine ⟨?_, hbr⟩
      rw [HM.out]; rfl
end Go.Proofs.YthghhcnpbehaiaaGreat

/- wear.Least, wear.Most, victim.Free. -/
namespace Go.Proofs.YthghhcnpbehaiaaGreat
open Go.RowKit
def ltB (x y : Int) : Bool := decide (x < y)
def gtB (x y : Int) : Bool := decide (y < x)

theorem least124 (ws : Nat → Int) (p : Nat → Bool) (n : Nat) (hn : n ≤ 100) (b c1 g c2 : Nat) (w : World) (hw : Row w b 0 (((List.range n).map ws).map i64)) (hr : Row w g 0 ((these p n).map Value.bool)) :
    Calls Tryz.prog 124 #[.slice (some ⟨b, 0, none⟩) n c1, .slice (some ⟨g, 0, none⟩) n c2] w fun e w' => e = .returned (i64 (bestOf ltB ws p n)) ∧ Below w.heap.size w w' := by
  go_enter Tryz.func124, Tryz.ntmps124
  go_wp2_with (go_at_call 164; refine (best164 165 (.inl rfl) ltB (fun x y wx => less165 x y wx) ws p n hn b c1 g c2 _ hw hr).mono ?_; rintro e w' ⟨rfl, hb⟩)
  go_ret
  exact ⟨rfl, hb⟩
theorem most198 (ws : Nat → Int) (p : Nat → Bool) (n : Nat) (hn : n ≤ 100) (b c1 g c2 : Nat) (w : World) (hw : Row w b 0 (((List.range n).map ws).map i64)) (hr : Row w g 0 ((these p n).map Value.bool)) :
    Calls Tryz.prog 198 #[.slice (some ⟨b, 0, none⟩) n c1, .slice (some ⟨g, 0, none⟩) n c2] w fun e w' => e = .returned (i64 (bestOf gtB ws p n)) ∧ Below w.heap.size w w' := by
  go_enter Tryz.func198, Tryz.ntmps198
  go_wp2_with (go_at_call 164; refine (best164 222 (.inr rfl) gtB (fun x y wx => more222 x y wx) ws p n hn b c1 g c2 _ hw hr).mono ?_; rintro e w' ⟨rfl, hb⟩)
  go_ret
  exact ⟨rfl, hb⟩
theorem vfree199 (ws : Nat → Int) (p : Nat → Bool) (n : Nat) (hn : n ≤ 100) (b c1 g c2 : Nat) (w : World) (hw : Row w b 0 (((List.range n).map ws).map i64)) (hr : Row w g 0 ((these p n).map Value.bool)) :
    Calls Tryz.prog 199 #[.slice (some ⟨b, 0, none⟩) n c1, .slice (some ⟨g, 0, none⟩) n c2] w fun e w' => e = .returned (i64 (bestOf ltB ws p n)) ∧ Below w.heap.size w w' := by
  go_enter Tryz.func199, Tryz.ntmps199
  go_wp2_with (go_at_call 124; refine (least124 ws p n hn b c1 g c2 _ hw hr).mono ?_; rintro e w' ⟨rfl, hb⟩)
  go_ret
  exact ⟨rfl, hb⟩
end Go.Proofs.YthghhcnpbehaiaaGreat

/- The flash: fresh. -/
namespace Go.Proofs.YthghhcnpbehaiaaGreat
open Go.RowKit

def Chip.fresh (C : Chip) : Int := bestOf ltB (fun i => C.wearOf (i : Nat)) (fun i => C.isFree (i : Nat)) C.bk.length

set_option maxHeartbeats 2000000 in
set_option maxRecDepth 100000 in
theorem fresh163 {w : World} {f : Nat} {A : CA} {C : Chip} (h : Hd w f A C) : Calls Tryz.prog 163 #[ptr f] w fun e w' => e = .returned (.tuple #[i64 C.fresh, .bool (decide (0 ≤ C.fresh))]) ∧ Below w.heap.size w w' := by
  have hs := h.chip.small
  go_enter Tryz.func163, Tryz.ntmps163
  go_wp2_with fail
  refine (wears120 h).mono ?_
  rintro e w1 ⟨⟨v1, rfl, own1⟩, hb1⟩
  obtain ⟨g1, c1, rfl⟩ := own_some own1 (by intro e; subst e; rcases own1.2 with ⟨_, h0⟩ | ⟨_, _, _, h0, _⟩; omega; cases h0)
  have r1 := own_rowE own1
  have h1 := h.below hb1
  have R1 := Lib.hid r1
  clear own1 r1
  go_wp2_with fail
  refine (these121 h1 114 (.inl rfl) (fun i => C.isFree (i : Nat)) (fun wx k hb hk => free114 (h1.below hb) k hk)).mono ?_
  rintro e w2 ⟨⟨v2, rfl, own2⟩, hb2⟩
  obtain ⟨g2, c2, rfl⟩ := own_some own2 (by intro e; subst e; rcases own2.2 with ⟨_, h0⟩ | ⟨_, _, _, h0, _⟩; omega; cases h0)
  have r2 := own_rowE own2
  have R2 := Lib.hid r2
  clear own2 r2
  go_wp2_with fail
  refine (vfree199 (fun i => C.wearOf (i : Nat)) (fun i => C.isFree (i : Nat)) C.bk.length (by omega) g1 c1 g2 c2 _ (R1.out.below hb2) R2.out).mono ?_
  rintro e w3 ⟨rfl, hb3⟩
  go_wp2_with fail
  go_ret2
  exact ⟨rfl, ext_call hb3 (by have := hb1.size; have := hb2.size; omega) (ext_call hb2 hb1.size hb1)⟩
end Go.Proofs.YthghhcnpbehaiaaGreat

/- The flash: which block is open. -/
namespace Go.Proofs.YthghhcnpbehaiaaGreat
open Go.RowKit

def Chip.isOpen (C : Chip) (n : Int) : Bool := !C.isBad n && decide (0 < C.usedOf n) && decide (C.usedOf n < C.g.P)

set_option maxHeartbeats 2000000 in
set_option maxRecDepth 100000 in
theorem open194 {w : World} {f : Nat} {A : CA} {C : Chip} (h : Hd w f A C) (m : Nat) (hm : m < C.bk.length) (q : Nat) (hq : w.cell? ⟨q, 0, none⟩ = some (ptr f)) :
    Calls Tryz.prog 194 #[i64 m, ptr q] w fun e w' => e = .returned (.bool (C.isOpen m)) ∧ Below w.heap.size w w' := by
  have c0 := h.row.cell0 0 rfl
  have c2 := h.row.cell0 2 rfl
  have lf : f < w.heap.size := h.f_lt
  have lq := World.block_lt_of_cell? _ _ hq
  cases hbb : C.isBad m
  · have hg : ∀ wx, Below w.heap.size w wx → Calls Tryz.prog 116 #[ptr f, i64 m] wx fun e w' => e = .returned (.bool true) ∧ Below wx.heap.size wx w' := fun wx hb => by have := good116 (h.below hb) m hm; rw [hbb] at this; exact this
    have HG := Lib.hid hg
    have HH := Lib.hid h
    clear hg h
    by_cases hu : 0 < C.usedOf m
    · have hu' : decide (0 < C.usedOf m) = true := by simpa using hu
      go_enter Tryz.func194, Tryz.ntmps194
      go_wp2_with fail
      refine wp_region_keep 26 (fun wJ => Below (w).heap.size (w) wJ) (by kernel_rfl) (by kernel_rfl) (by (repeat (first | exact Below.refl _ _ | assumption | (with_reducible refine Below.drew ?_) | (with_reducible refine below_drewN' ?_ _) | (with_reducible refine ext_alloc ?_ ?_; · (first | omega | (simp only [World.size_alloc, World.size_setCell, World.size_drew, World.heap_drewN]; omega) | (simp; omega))) | (with_reducible refine ext_setCell ?_ ?_; · (first | omega | (simp only [World.size_alloc, World.size_setCell, World.size_drew, World.heap_drewN]; omega) | (simp; omega))) | (refine ext_call (by assumption) ?_ ?_; · (first | omega | (simp only [World.size_alloc, World.size_setCell, World.size_drew, World.heap_drewN]; omega) | (simp; omega)))))) ?_
      simp only [List.take_succ_cons, List.take_zero, List.drop_succ_cons, List.drop_zero]
      iterate 2 (apply keep_yes; (· rfl); (· (intro w' hJ; (try obtain ⟨hc', hf'⟩ := bcell hJ); refine gives_of (by (go_simp; rfl)) rfl hJ)); simp only [Act.put, List.setIfInBounds_toArray, List.set_cons_zero, List.set_cons_succ])
      (apply keep_yes; (· rfl); (· (intro w' hJ; refine gives_call (v := .bool true) (by (go_simp; first | rfl | exact ⟨⟨rfl, rfl⟩, rfl⟩)) ?_; refine (HG.out _ hJ).mono ?_; rintro e w'' ⟨rfl, hbx⟩; exact ⟨rfl, ext_call hbx hJ.size hJ⟩)); simp only [Act.put, List.setIfInBounds_toArray, List.set_cons_zero, List.set_cons_succ])
      iterate 6 (apply keep_yes; (· rfl); (· (intro w' hJ; (try obtain ⟨hc', hf'⟩ := bcell hJ); refine gives_of (by (go_simp; rfl)) rfl hJ)); simp only [Act.put, List.setIfInBounds_toArray, List.set_cons_zero, List.set_cons_succ])
      (apply keep_yes; (· rfl); (· (intro w' hJ; refine gives_call (v := i64 (C.usedOf m)) (by (go_simp; first | rfl | exact ⟨⟨rfl, rfl⟩, rfl⟩)) ?_; refine (used153 (HH.out.below hJ).chip m).mono ?_; rintro e w'' ⟨rfl, hbx⟩; exact ⟨rfl, ext_call hbx hJ.size hJ⟩)); simp only [Act.put, List.setIfInBounds_toArray, List.set_cons_zero, List.set_cons_succ])
      iterate 8 (apply keep_yes; (· rfl); (· (intro w' hJ; (try obtain ⟨hc', hf'⟩ := bcell hJ); refine gives_of (by (go_simp; rfl)) rfl hJ)); simp only [Act.put, List.setIfInBounds_toArray, List.set_cons_zero, List.set_cons_succ])
      (apply keep_yes; (· rfl); (· (intro w' hJ; refine gives_call (v := i64 (C.usedOf m)) (by (go_simp; first | rfl | exact ⟨⟨rfl, rfl⟩, rfl⟩)) ?_; refine (used153 (HH.out.below hJ).chip m).mono ?_; rintro e w'' ⟨rfl, hbx⟩; exact ⟨rfl, ext_call hbx hJ.size hJ⟩)); simp only [Act.put, List.setIfInBounds_toArray, List.set_cons_zero, List.set_cons_succ])
      iterate 7 (apply keep_yes; (· rfl); (· (intro w' hJ; (try obtain ⟨hc', hf'⟩ := bcell hJ); refine gives_of (by (go_simp; rfl)) rfl hJ)); simp only [Act.put, List.setIfInBounds_toArray, List.set_cons_zero, List.set_cons_succ])
      refine keep_nil ?_
      intro w1 hb1
      go_wp2_with fail
      go_ret
      refine ⟨?_, hb1⟩
      simp [Chip.isOpen, hbb, hu]
    · have hu' : decide (0 < C.usedOf m) = false := by simpa using hu
      go_enter Tryz.func194, Tryz.ntmps194
      go_wp2_with fail
      refine wp_region_keep 26 (fun wJ => Below (w).heap.size (w) wJ) (by kernel_rfl) (by kernel_rfl) (by (repeat (first | exact Below.refl _ _ | assumption | (with_reducible refine Below.drew ?_) | (with_reducible refine below_drewN' ?_ _) | (with_reducible refine ext_alloc ?_ ?_; · (first | omega | (simp only [World.size_alloc, World.size_setCell, World.size_drew, World.heap_drewN]; omega) | (simp; omega))) | (with_reducible refine ext_setCell ?_ ?_; · (first | omega | (simp only [World.size_alloc, World.size_setCell, World.size_drew, World.heap_drewN]; omega) | (simp; omega))) | (refine ext_call (by assumption) ?_ ?_; · (first | omega | (simp only [World.size_alloc, World.size_setCell, World.size_drew, World.heap_drewN]; omega) | (simp; omega)))))) ?_
      simp only [List.take_succ_cons, List.take_zero, List.drop_succ_cons, List.drop_zero]
      iterate 2 (apply keep_yes; (· rfl); (· (intro w' hJ; (try obtain ⟨hc', hf'⟩ := bcell hJ); refine gives_of (by (go_simp; rfl)) rfl hJ)); simp only [Act.put, List.setIfInBounds_toArray, List.set_cons_zero, List.set_cons_succ])
      (apply keep_yes; (· rfl); (· (intro w' hJ; refine gives_call (v := .bool true) (by (go_simp; first | rfl | exact ⟨⟨rfl, rfl⟩, rfl⟩)) ?_; refine (HG.out _ hJ).mono ?_; rintro e w'' ⟨rfl, hbx⟩; exact ⟨rfl, ext_call hbx hJ.size hJ⟩)); simp only [Act.put, List.setIfInBounds_toArray, List.set_cons_zero, List.set_cons_succ])
      iterate 6 (apply keep_yes; (· rfl); (· (intro w' hJ; (try obtain ⟨hc', hf'⟩ := bcell hJ); refine gives_of (by (go_simp; rfl)) rfl hJ)); simp only [Act.put, List.setIfInBounds_toArray, List.set_cons_zero, List.set_cons_succ])
      (apply keep_yes; (· rfl); (· (intro w' hJ; refine gives_call (v := i64 (C.usedOf m)) (by (go_simp; first | rfl | exact ⟨⟨rfl, rfl⟩, rfl⟩)) ?_; refine (used153 (HH.out.below hJ).chip m).mono ?_; rintro e w'' ⟨rfl, hbx⟩; exact ⟨rfl, ext_call hbx hJ.size hJ⟩)); simp only [Act.put, List.setIfInBounds_toArray, List.set_cons_zero, List.set_cons_succ])
      iterate 3 (apply keep_yes; (· rfl); (· (intro w' hJ; (try obtain ⟨hc', hf'⟩ := bcell hJ); refine gives_of (by (go_simp; rfl)) rfl hJ)); simp only [Act.put, List.setIfInBounds_toArray, List.set_cons_zero, List.set_cons_succ])
      iterate 12 (refine keep_no (by rfl) ?_; simp only [Act.put, List.setIfInBounds_toArray, List.set_cons_zero, List.set_cons_succ])
      (apply keep_yes; (· rfl); (· (intro w' hJ; (try obtain ⟨hc', hf'⟩ := bcell hJ); refine gives_of (by (go_simp; rfl)) rfl hJ)); simp only [Act.put, List.setIfInBounds_toArray, List.set_cons_zero, List.set_cons_succ])
      refine keep_nil ?_
      intro w1 hb1
      go_wp2_with fail
      go_ret
      refine ⟨?_, hb1⟩
      simp [Chip.isOpen, hbb]
      intro h0; omega
  · have hg : ∀ wx, Below w.heap.size w wx → Calls Tryz.prog 116 #[ptr f, i64 m] wx fun e w' => e = .returned (.bool false) ∧ Below wx.heap.size wx w' := fun wx hb => by have := good116 (h.below hb) m hm; rw [hbb] at this; exact this
    have HG := Lib.hid hg
    have HH := Lib.hid h
    clear hg h
    go_enter Tryz.func194, Tryz.ntmps194
    go_wp2_with fail
    refine wp_region_keep 26 (fun wJ => Below (w).heap.size (w) wJ) (by kernel_rfl) (by kernel_rfl) (by (repeat (first | exact Below.refl _ _ | assumption | (with_reducible refine Below.drew ?_) | (with_reducible refine below_drewN' ?_ _) | (with_reducible refine ext_alloc ?_ ?_; · (first | omega | (simp only [World.size_alloc, World.size_setCell, World.size_drew, World.heap_drewN]; omega) | (simp; omega))) | (with_reducible refine ext_setCell ?_ ?_; · (first | omega | (simp only [World.size_alloc, World.size_setCell, World.size_drew, World.heap_drewN]; omega) | (simp; omega))) | (refine ext_call (by assumption) ?_ ?_; · (first | omega | (simp only [World.size_alloc, World.size_setCell, World.size_drew, World.heap_drewN]; omega) | (simp; omega)))))) ?_
    simp only [List.take_succ_cons, List.take_zero, List.drop_succ_cons, List.drop_zero]
    iterate 2 (apply keep_yes; (· rfl); (· (intro w' hJ; (try obtain ⟨hc', hf'⟩ := bcell hJ); refine gives_of (by (go_simp; rfl)) rfl hJ)); simp only [Act.put, List.setIfInBounds_toArray, List.set_cons_zero, List.set_cons_succ])
    (apply keep_yes; (· rfl); (· (intro w' hJ; refine gives_call (v := .bool false) (by (go_simp; first | rfl | exact ⟨⟨rfl, rfl⟩, rfl⟩)) ?_; refine (HG.out _ hJ).mono ?_; rintro e w'' ⟨rfl, hbx⟩; exact ⟨rfl, ext_call hbx hJ.size hJ⟩)); simp only [Act.put, List.setIfInBounds_toArray, List.set_cons_zero, List.set_cons_succ])
    (apply keep_yes; (· rfl); (· (intro w' hJ; (try obtain ⟨hc', hf'⟩ := bcell hJ); refine gives_of (by (go_simp; rfl)) rfl hJ)); simp only [Act.put, List.setIfInBounds_toArray, List.set_cons_zero, List.set_cons_succ])
    iterate 7 (refine keep_no (by rfl) ?_; simp only [Act.put, List.setIfInBounds_toArray, List.set_cons_zero, List.set_cons_succ])
    iterate 2 (apply keep_yes; (· rfl); (· (intro w' hJ; (try obtain ⟨hc', hf'⟩ := bcell hJ); refine gives_of (by (go_simp; rfl)) rfl hJ)); simp only [Act.put, List.setIfInBounds_toArray, List.set_cons_zero, List.set_cons_succ])
    iterate 12 (refine keep_no (by rfl) ?_; simp only [Act.put, List.setIfInBounds_toArray, List.set_cons_zero, List.set_cons_succ])
    (apply keep_yes; (· rfl); (· (intro w' hJ; (try obtain ⟨hc', hf'⟩ := bcell hJ); refine gives_of (by (go_simp; rfl)) rfl hJ)); simp only [Act.put, List.setIfInBounds_toArray, List.set_cons_zero, List.set_cons_succ])
    refine keep_nil ?_
    intro w1 hb1
    go_wp2_with fail
    go_ret
    refine ⟨?_, hb1⟩
    simp [Chip.isOpen, hbb]
end Go.Proofs.YthghhcnpbehaiaaGreat
