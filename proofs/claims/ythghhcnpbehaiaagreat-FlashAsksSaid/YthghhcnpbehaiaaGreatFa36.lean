/- What the statements' own small functions answer. -/
import Derived.Test.YthghhcnpbehaiaaGreatFa08
import Derived.Test.YthghhcnpbehaiaaGreatFa30
import Derived.Test.YthghhcnpbehaiaaGreatFa27

namespace Go.Proofs.YthghhcnpbehaiaaGreat
open Go.RowKit

set_option maxHeartbeats 2000000 in
set_option maxRecDepth 100000 in
theorem sameBytes34 (l1 l2 : List Int) (n1 n2 : Nat) (h1 : l1.length = n1) (h2 : l2.length = n2) (hl : n1 ≤ 100000) (A1 A2 : Option Addr) (c1 c2 : Nat) (w : World) (hv1 : SlAt w (.slice A1 n1 c1) n1 (l1.map u8)) (hv2 : SlAt w (.slice A2 n2 c2) n2 (l2.map u8)) :
    Calls Tryz.prog 34 #[.slice A1 n1 c1, .slice A2 n2 c2] w fun e w' => e = .returned (.bool (decide (l1 = l2))) ∧ Below w.heap.size w w' := by
  obtain ⟨r, hrr⟩ : ∃ r, r = decide (l1 = l2) := ⟨_, rfl⟩
  rw [← hrr]
  have HRR := Lib.hid hrr
  clear hrr
  obtain ⟨a0, k0, hv0, -, hr1⟩ := hv1
  simp only [Value.slice.injEq] at hv0
  obtain ⟨rfl, -, rfl⟩ := hv0
  obtain ⟨a0, k0, hv0, -, hr2⟩ := hv2
  simp only [Value.slice.injEq] at hv0
  obtain ⟨rfl, -, rfl⟩ := hv0
  by_cases hn : n1 = n2
  · subst hn
    have hnn : ((n1 : Int) != (n1 : Int)) = false := by simp
    have HR1 := Lib.hid hr1
    have HR2 := Lib.hid hr2
    have H1 := Lib.hid h1
    have H2 := Lib.hid h2
    clear hr1 hr2 h1 h2
    go_enter Tryz.func34, Tryz.ntmps34
    go_wp2_with fail
    go_loopw [5] (fun i wr => ∃ j : Nat, j ≤ n1 ∧ i = .int .i64 j ∧ Below w.heap.size w wr ∧ Hid (l1.take j = l2.take j)) (fun i _ => n1 - (RowKit.intOf i).toNat)
    case atStart => exact ⟨0, Nat.zero_le _, rfl, Below.refl _ _, rfl⟩
    case round =>
      obtain ⟨j, hj, rfl, hbr, HT⟩ := hrel
      have j0 : (0 : Int) ≤ (j : Int) := by omega
      have hkw : IntKind.i64.wrap ((j : Int) + 1) = ((j + 1 : Nat) : Int) := by rw [IntWalk.i64_in _ (by omega)]; omega
      by_cases hlt : j < n1
      · obtain ⟨x, hx⟩ : ∃ x, l1[j]? = some x := ⟨l1[j]'(by have := H1.out; omega), List.getElem?_eq_getElem _⟩
        obtain ⟨y, hy⟩ : ∃ y, l2[j]? = some y := ⟨l2[j]'(by have := H2.out; omega), List.getElem?_eq_getElem _⟩
        rcases HR1.out with e | ⟨b1, o1, rfl, r1⟩
        · exfalso; have hh : l1 = [] := by simpa using e
          rw [hh] at hx; simp at hx
        rcases HR2.out with e | ⟨b2, o2, rfl, r2⟩
        · exfalso; have hh : l2 = [] := by simpa using e
          rw [hh] at hy; simp at hy
        have d1 : wr.cell? ⟨b1, o1 + j, none⟩ = some (u8 x) := ((r1.below hbr) j _ (by simp [hx])).1
        have d2 : wr.cell? ⟨b2, o2 + j, none⟩ = some (u8 y) := ((r2.below hbr) j _ (by simp [hy])).1
        have lt1 := World.block_lt_of_cell? _ _ d1
        have lt2 := World.block_lt_of_cell? _ _ d2
        have hts : l1.take (j + 1) = l1.take j ++ [x] := take_snoc' hx
        have hts2 : l2.take (j + 1) = l2.take j ++ [y] := take_snoc' hy
        have HTS := Lib.hid hts
        have HTS2 := Lib.hid hts2
        have ijn : (j : Int) < (n1 : Int) := by omega
        have HX := Lib.hid hx
        have HY := Lib.hid hy
        clear r1 r2 hts hts2 hx hy
        by_cases hxy : x = y
        · subst hxy
          have q1 : (x != x) = false := by simp
          go_wp2_with fail
          go_quiet (fail)
          go_wp2_with fail
          refine ⟨⟨j + 1, by omega, ?_, below_drewN' hbr _, ?_⟩, by simp [RowKit.intOf]; omega⟩
          · first | rfl | (congr 1; done) | (congr 1; omega)
          · rw [HTS.out, HTS2.out, HT.out]; exact Lib.hid rfl
        · have q1 : (x != y) = true := by simpa using hxy
          have hne : decide (l1 = l2) = false := by
            rw [decide_eq_false_iff_not]
            intro e
            have a := HX.out
            rw [e, HY.out] at a
            injection a with a
            exact hxy a.symm
          have hrf : r = false := HRR.out.trans hne
          have HRF := Lib.hid hrf
          clear hne hxy hrf
          go_wp2_with fail
          go_quiet (fail)
          go_wp2_with fail
          go_ret
          exact ⟨by rw [HRF.out]; rfl, below_drewN' hbr _⟩
      · have e : j = n1 := by omega
        subst e
        have heq : decide (l1 = l2) = true := by
          rw [decide_eq_true_eq]
          have := HT.out
          rw [List.take_of_length_le (by have := H1.out; omega), List.take_of_length_le (by have := H2.out; omega)] at this
          exact this
        have hrf : r = true := HRR.out.trans heq
        have HRF := Lib.hid hrf
        clear heq hrf
        go_wp2_with fail
        go_ret
        exact ⟨by rw [HRF.out]; rfl, hbr⟩
  · have hnn : ((n1 : Int) != (n2 : Int)) = true := by simp; omega
    have hne : decide (l1 = l2) = false := by
      rw [decide_eq_false_iff_not]; intro e; subst e; omega
    have hrf : r = false := HRR.out.trans hne
    have HRF := Lib.hid hrf
    clear hne hn hr1 hr2 h1 h2 hrf
    go_enter Tryz.func34, Tryz.ntmps34
    go_wp2_with fail
    go_ret
    exact ⟨by rw [HRF.out]; rfl, Below.refl _ _⟩

set_option maxHeartbeats 2000000 in
set_option maxRecDepth 100000 in
theorem sameInts31 (l1 l2 : List Int) (n1 n2 : Nat) (h1 : l1.length = n1) (h2 : l2.length = n2) (hl : n1 ≤ 100000) (A1 A2 : Option Addr) (c1 c2 : Nat) (w : World) (hv1 : SlAt w (.slice A1 n1 c1) n1 (l1.map i64)) (hv2 : SlAt w (.slice A2 n2 c2) n2 (l2.map i64)) :
    Calls Tryz.prog 31 #[.slice A1 n1 c1, .slice A2 n2 c2] w fun e w' => e = .returned (.bool (decide (l1 = l2))) ∧ Below w.heap.size w w' := by
  obtain ⟨r, hrr⟩ : ∃ r, r = decide (l1 = l2) := ⟨_, rfl⟩
  rw [← hrr]
  have HRR := Lib.hid hrr
  clear hrr
  obtain ⟨a0, k0, hv0, -, hr1⟩ := hv1
  simp only [Value.slice.injEq] at hv0
  obtain ⟨rfl, -, rfl⟩ := hv0
  obtain ⟨a0, k0, hv0, -, hr2⟩ := hv2
  simp only [Value.slice.injEq] at hv0
  obtain ⟨rfl, -, rfl⟩ := hv0
  by_cases hn : n1 = n2
  · subst hn
    have hnn : ((n1 : Int) != (n1 : Int)) = false := by simp
    have HR1 := Lib.hid hr1
    have HR2 := Lib.hid hr2
    have H1 := Lib.hid h1
    have H2 := Lib.hid h2
    clear hr1 hr2 h1 h2
    go_enter Tryz.func31, Tryz.ntmps31
    go_wp2_with fail
    go_loopw [5] (fun i wr => ∃ j : Nat, j ≤ n1 ∧ i = .int .i64 j ∧ Below w.heap.size w wr ∧ Hid (l1.take j = l2.take j)) (fun i _ => n1 - (RowKit.intOf i).toNat)
    case atStart => exact ⟨0, Nat.zero_le _, rfl, Below.refl _ _, rfl⟩
    case round =>
      obtain ⟨j, hj, rfl, hbr, HT⟩ := hrel
      have j0 : (0 : Int) ≤ (j : Int) := by omega
      have hkw : IntKind.i64.wrap ((j : Int) + 1) = ((j + 1 : Nat) : Int) := by rw [IntWalk.i64_in _ (by omega)]; omega
      by_cases hlt : j < n1
      · obtain ⟨x, hx⟩ : ∃ x, l1[j]? = some x := ⟨l1[j]'(by have := H1.out; omega), List.getElem?_eq_getElem _⟩
        obtain ⟨y, hy⟩ : ∃ y, l2[j]? = some y := ⟨l2[j]'(by have := H2.out; omega), List.getElem?_eq_getElem _⟩
        rcases HR1.out with e | ⟨b1, o1, rfl, r1⟩
        · exfalso; have hh : l1 = [] := by simpa using e
          rw [hh] at hx; simp at hx
        rcases HR2.out with e | ⟨b2, o2, rfl, r2⟩
        · exfalso; have hh : l2 = [] := by simpa using e
          rw [hh] at hy; simp at hy
        have d1 : wr.cell? ⟨b1, o1 + j, none⟩ = some (i64 x) := ((r1.below hbr) j _ (by simp [hx])).1
        have d2 : wr.cell? ⟨b2, o2 + j, none⟩ = some (i64 y) := ((r2.below hbr) j _ (by simp [hy])).1
        have lt1 := World.block_lt_of_cell? _ _ d1
        have lt2 := World.block_lt_of_cell? _ _ d2
        have hts : l1.take (j + 1) = l1.take j ++ [x] := take_snoc' hx
        have hts2 : l2.take (j + 1) = l2.take j ++ [y] := take_snoc' hy
        have HTS := Lib.hid hts
        have HTS2 := Lib.hid hts2
        have ijn : (j : Int) < (n1 : Int) := by omega
        have HX := Lib.hid hx
        have HY := Lib.hid hy
        clear r1 r2 hts hts2 hx hy
        by_cases hxy : x = y
        · subst hxy
          have q1 : (x != x) = false := by simp
          go_wp2_with fail
          go_quiet (fail)
          go_wp2_with fail
          refine ⟨⟨j + 1, by omega, ?_, below_drewN' hbr _, ?_⟩, by simp [RowKit.intOf]; omega⟩
          · first | rfl | (congr 1; done) | (congr 1; omega)
          · rw [HTS.out, HTS2.out, HT.out]; exact Lib.hid rfl
        · have q1 : (x != y) = true := by simpa using hxy
          have hne : decide (l1 = l2) = false := by
            rw [decide_eq_false_iff_not]
            intro e
            have a := HX.out
            rw [e, HY.out] at a
            injection a with a
            exact hxy a.symm
          have hrf : r = false := HRR.out.trans hne
          have HRF := Lib.hid hrf
          clear hne hxy hrf
          go_wp2_with fail
          go_quiet (fail)
          go_wp2_with fail
          go_ret
          exact ⟨by rw [HRF.out]; rfl, below_drewN' hbr _⟩
      · have e : j = n1 := by omega
        subst e
        have heq : decide (l1 = l2) = true := by
          rw [decide_eq_true_eq]
          have := HT.out
          rw [List.take_of_length_le (by have := H1.out; omega), List.take_of_length_le (by have := H2.out; omega)] at this
          exact this
        have hrf : r = true := HRR.out.trans heq
        have HRF := Lib.hid hrf
        clear heq hrf
        go_wp2_with fail
        go_ret
        exact ⟨by rw [HRF.out]; rfl, hbr⟩
  · have hnn : ((n1 : Int) != (n2 : Int)) = true := by simp; omega
    have hne : decide (l1 = l2) = false := by
      rw [decide_eq_false_iff_not]; intro e; subst e; omega
    have hrf : r = false := HRR.out.trans hne
    have HRF := Lib.hid hrf
    clear hne hn hr1 hr2 h1 h2 hrf
    go_enter Tryz.func31, Tryz.ntmps31
    go_wp2_with fail
    go_ret
    exact ⟨by rw [HRF.out]; rfl, Below.refl _ _⟩

theorem small54 (w : World) : Calls Tryz.prog 54 #[] w fun e w' => e = .returned (.agg #[i64 8, i64 4, i64 32, i64 0, i64 2]) ∧ Below w.heap.size w w' := by
  go_enter Tryz.func54, Tryz.ntmps54
  go_wp2_with fail
  exact bodyPost_ret (v := .agg #[i64 8, i64 4, i64 32, i64 0, i64 2]) (by simp [results, Tryz.results54, go_sem, *]) rfl ⟨rfl, by (repeat (first | exact Below.refl _ _ | assumption | (with_reducible refine Below.drew ?_) | (with_reducible refine below_drewN' ?_ _) | (with_reducible refine ext_alloc ?_ ?_; · (first | omega | (simp only [World.size_alloc, World.size_setCell, World.size_drew, World.heap_drewN]; omega) | (simp; omega))) | (with_reducible refine ext_setCell ?_ ?_; · (first | omega | (simp only [World.size_alloc, World.size_setCell, World.size_drew, World.heap_drewN]; omega) | (simp; omega))) | (refine ext_call (by assumption) ?_ ?_; · (first | omega | (simp only [World.size_alloc, World.size_setCell, World.size_drew, World.heap_drewN]; omega) | (simp; omega)))))⟩

/-- A page's bytes, as the statements make them. -/
def dataL (n : Int) (m : Nat) : List Int := (List.range m).map fun i => (n + (i : Nat)) % 256
theorem dataL_len (n : Int) (m : Nat) : (dataL n m).length = m := by simp [dataL]
theorem dataL_byte (n : Int) (m : Nat) : ∀ x ∈ dataL n m, 0 ≤ x ∧ x ≤ 255 := by
  intro x hx
  obtain ⟨i, _, rfl⟩ := List.mem_map.1 hx
  omega
def dataTo (n : Int) (m j : Nat) : List Int := (dataL n j) ++ List.replicate (m - j) 0
theorem dataTo_set (n : Int) (m j : Nat) (hj : j < m) : (dataTo n m j).set j ((n + (j : Nat)) % 256) = dataTo n m (j + 1) := by
  have h1 : (dataL n (j + 1)) = dataL n j ++ [(n + (j : Nat)) % 256] := by simp [dataL, List.range_succ]
  rw [dataTo, dataTo, List.set_append_right _ _ (by simp [dataL_len]), dataL_len, Nat.sub_self, h1]
  have h2 : m - j = (m - (j + 1)) + 1 := by omega
  rw [h2, List.replicate_succ, List.set_cons_zero, List.append_assoc]; rfl
theorem u8w (x : Int) : IntKind.u8.wrap x = x % 256 := by
  simp [IntKind.wrap, IntKind.signed, IntKind.bits]

set_option maxHeartbeats 2000000 in
set_option maxRecDepth 100000 in
theorem data19 (n : Int) (hn : 0 ≤ n ∧ n ≤ 255) (m : Nat) (hm : m ≤ 1000) (w : World) :
    Calls Tryz.prog 19 #[u8 n, i64 m] w fun e w' => e = .returned (.slice (some ⟨w.heap.size, 0, none⟩) m m) ∧ w'.heap[w.heap.size]? = some (.cells ((dataL n m).map u8).toArray 5 (0, 0)) ∧ Below w.heap.size w w' := by
  have hmk := make37 m (by omega)
  have m0 : (0 : Int) ≤ (m : Int) := by omega
  go_enter Tryz.func19, Tryz.ntmps19
  go_wp2_with fail
  go_loopw [6] (fun i wr => ∃ j : Nat, j ≤ m ∧ i = .int .i64 j ∧ Below w.heap.size w wr ∧ Hid (wr.heap[w.heap.size]? = some (.cells ((dataTo n m j).map u8).toArray 5 (0, 0)))) (fun i _ => m - (RowKit.intOf i).toNat)
  case atStart =>
    refine ⟨0, Nat.zero_le _, rfl, by (repeat (first | exact Below.refl _ _ | assumption | (with_reducible refine Below.drew ?_) | (with_reducible refine below_drewN' ?_ _) | (with_reducible refine ext_alloc ?_ ?_; · (first | omega | (simp only [World.size_alloc, World.size_setCell, World.size_drew, World.heap_drewN]; omega) | (simp; omega))) | (with_reducible refine ext_setCell ?_ ?_; · (first | omega | (simp only [World.size_alloc, World.size_setCell, World.size_drew, World.heap_drewN]; omega) | (simp; omega))) | (refine ext_call (by assumption) ?_ ?_; · (first | omega | (simp only [World.size_alloc, World.size_setCell, World.size_drew, World.heap_drewN]; omega) | (simp; omega))))), ?_⟩
    have := heap_new w (.cells (Array.replicate m (u8 0)) 5)
    rw [this]; simp [dataTo, dataL]
    exact Lib.hid trivial
  case round =>
    obtain ⟨j, hj, rfl, hbr, HHE⟩ := hrel
    have j0 : (0 : Int) ≤ (j : Int) := by omega
    have hkw : IntKind.i64.wrap ((j : Int) + 1) = ((j + 1 : Nat) : Int) := by rw [IntWalk.i64_in _ (by omega)]; omega
    by_cases hlt : j < m
    · obtain ⟨x, hx⟩ : ∃ x, ((dataTo n m j).map u8)[j]? = some x := ⟨_, List.getElem?_eq_getElem (by simp [dataTo, dataL_len]; omega)⟩
      have hr := row_of_heap HHE.out
      have d1 : wr.cell? ⟨w.heap.size, j, none⟩ = some x := hr.cell0 j hx
      have u1 : wr.frozen? ⟨w.heap.size, j, none⟩ = false := hr.free0 j hx
      have hlw := World.block_lt_of_cell? _ _ d1
      have ijn : (j : Int) < (m : Int) := by omega
      have hst := dataTo_set n m j hlt
      have HSTT := Lib.hid hst
      clear hr hx hst
      go_wp2_with fail
      refine ⟨⟨j + 1, by omega, ?_, ?_, ?_⟩, by simp [RowKit.intOf]; omega⟩
      · first | rfl | (congr 1; done) | (congr 1; omega)
      · exact hbr.setCell (Nat.le_refl _) _
      · have e := heap_setCell HHE.out j (u8 ((n + (j : Nat)) % 256))
        rw [List.setIfInBounds_toArray, ← List.map_set, HSTT.out] at e
        refine Lib.hid ?_
        rw [← e]
    · have e : j = m := by omega
      subst e
      go_wp2_with fail
      go_ret
      refine ⟨rfl, ?_, hbr⟩
      have := HHE.out
      simpa [dataTo] using this
end Go.Proofs.YthghhcnpbehaiaaGreat
