/- slices.Repeat of one byte. -/
import Derived.Test.YthghhcnpbehaiaaGreatFa29
import Derived.Test.YthghhcnpbehaiaaGreatFa03
import Derived.Test.YthghhcnpbehaiaaGreatFa05
import Derived.Laws.CopyOwn

namespace Go.Proofs.YthghhcnpbehaiaaGreat
open Go.RowKit

theorem mul1 (n : Nat) (hn : n ≤ 100000) (w : World) : Calls Tryz.prog 100 #[.int .u64 1, .int .u64 n] w fun e w' => e = .returned (.tuple #[.int .u64 0, .int .u64 n]) ∧ w = w' := by
  refine (Tryz.bits_Mul 1 n (by omega) (by omega) w).mono ?_
  rintro e w' ⟨rfl, h⟩
  have e1 : 1 * n / 18446744073709551616 = 0 := by omega
  have e2 : 1 * n % 18446744073709551616 = n := by omega
  refine ⟨?_, ?_⟩
  · rw [e1, e2]; rfl
  · exact h.symm

theorem made_u8 (n : Nat) : madeCells (Value.int .u8 0).cells (n * 1) = Array.replicate n (u8 0) := by
  apply Array.toList_inj.1
  apply List.ext_getElem
  · simp [madeCells]
  · intro i h1 h2
    simp [madeCells, Value.cells, Nat.mod_one]
theorem make37 (n : Nat) (hn : n ≤ 100000) (w : World) : (Instr.makeSlice 37 (i64 n) (i64 n)).run Tryz.prog w = .ok (.slice (some ⟨w.heap.size, 0, none⟩) n n) (w.alloc (.cells (Array.replicate n (u8 0)) 5)) := by
  obtain ⟨i0, hi, hz0, hz1, hz2⟩ := info_parts info5
  have := run_make (P := Tryz.prog) w 37 5 i0 (.int .u8 0) Tryz.underlying37 hi hz0 .i64 .i64 n n (by omega) (Int.le_refl _) (by rw [hz2]; omega) (by omega)
  rw [hz1, Int.toNat_natCast, made_u8] at this
  exact this

def half8 (n m : Nat) : List Value := List.replicate m (u8 255) ++ List.replicate (n - m) (u8 0)

theorem half_next (n m : Nat) (h1 : m ≤ n) : ((half8 n m).take m ++ (List.replicate (min m (n - m)) (u8 255) ++ (half8 n m).drop (m + (List.replicate (min m (n - m)) (u8 255)).length))).toArray = (half8 n (m + min m (n - m))).toArray := by
  congr 1
  have e1 : (half8 n m).take m = List.replicate m (u8 255) := by simp [half8]
  have e2 : (half8 n m).drop (m + min m (n - m)) = List.replicate (n - (m + min m (n - m))) (u8 0) := by
    rw [half8, List.drop_append]; simp; omega
  rw [e1, List.length_replicate, e2, ← List.append_assoc, List.replicate_append_replicate, half8]

theorem run_copy7 (n m : Nat) (h1 : m ≤ n) (h0 : 1 ≤ n) (g : Nat) (w : World) (hg : w.heap[g]? = some (.cells (half8 n m).toArray 5 (0, 0))) (a : Act) (o : Oper)
    (ho : o.op = .call { callee := .builtin .copy, args := #[.tmp 41, .tmp 44], argTypes := #[37, 37] })
    (hd : (a.eval (.tmp 41), a.eval (.tmp 44)) = (.slice (some ⟨g, m, none⟩) (n - m) (n - m), .slice (some ⟨g, 0, none⟩) m n)) :
    (execOp a.eval o).run Tryz.prog w = .ok (.value (i64 (min m (n - m) : Nat))) (w.setRow g (half8 n (m + min m (n - m))).toArray) := by
  simp only [Prod.mk.injEq] at hd
  obtain ⟨hd1, hd2⟩ := hd
  have hrow : Row w g 0 (half8 n m) := row_of_heap hg
  have hsrc : ∀ j v, (List.replicate (min m (n - m)) (u8 255))[j]? = some v → w.cell? ((⟨g, 0, none⟩ : Addr).add j) = some v := fun j v hj => by
    have e : (⟨g, 0, none⟩ : Addr).add j = ⟨g, 0 + j, none⟩ := by unfold Addr.add; split <;> simp [*]
    rw [e]
    refine (hrow j v ?_).1
    have hjl := (List.getElem?_eq_some_iff.1 hj).1
    rw [List.length_replicate] at hjl
    rw [List.getElem?_replicate, if_pos hjl] at hj
    rw [half8, List.getElem?_append_left (by simp; omega), List.getElem?_replicate, if_pos (by omega)]
    exact hj
  have hrun := run_copy_row (P := Tryz.prog) w 37 37 o.type 5 g m (n - m) (n - m) ⟨g, 0, none⟩ m n (half8 n m).toArray 5 (List.replicate (min m (n - m)) (u8 255)) Tryz.underlying37 (by kernel_rfl) hg (by simp) hsrc (by simp [half8]; omega)
    (by intro v hv; rw [List.mem_replicate] at hv; rw [hv.2]; rfl)
  rw [List.append_assoc] at hrun
  simp only [half_next n m h1] at hrun
  simp [execOp, ho, resolve, invoke, builtin, hd1, hd2, hrun, Result.andThen, goInt]

set_option maxHeartbeats 2000000 in
set_option maxRecDepth 100000 in
theorem repeat57 (n : Nat) (h0 : 1 ≤ n) (hn : n ≤ 100000) (q : Nat) (w : World) (hq : w.cell? ⟨q, 0, none⟩ = some (u8 255)) :
    Calls Tryz.prog 57 #[.slice (some ⟨q, 0, none⟩) 1 1, i64 n] w fun e w' => (∃ g, e = .returned (.slice (some ⟨g, 0, none⟩) n n) ∧ w.heap.size ≤ g ∧ w'.heap[g]? = some (.cells ((List.replicate n 255).map u8).toArray 5 (0, 0))) ∧ Below w.heap.size w w' := by
  have hq1 := World.block_lt_of_cell? _ _ hq
  have n0 : (0 : Int) ≤ (n : Int) := by omega
  have n1 : ¬ ((n : Int) < 0) := by omega
  have n2 : (n : Int) ≤ 100000 := by omega
  have n3 : IntKind.u64.wrap (n : Int) = n := IntWalk.u64_in _ (by omega)
  have n4 : IntKind.i64.wrap (n : Int) = n := IntWalk.i64_in _ (by omega)
  go_enter Tryz.func57, Tryz.ntmps57
  go_wp2_with fail
  refine (mul1 n hn _).mono ?_; rintro e w' ⟨rfl, rfl⟩
  go_wp2_with fail
  rw [make37 n hn]
  have hsl : (w.alloc (.cells (Array.replicate n (u8 0)) 5)).heap[w.heap.size]? = some (.cells (Array.replicate n (u8 0)) 5 (0, 0)) := heap_new _ _
  have hq2 : (w.alloc (.cells (Array.replicate n (u8 0)) 5)).cell? ⟨q, 0, none⟩ = some (u8 255) := keepa hq
  have HM : [u8 255].length = Nat.min 1 n := (Nat.min_eq_left h0).symm
  have HS : ∀ j v, [u8 255][j]? = some v → (w.alloc (.cells (Array.replicate n (u8 0)) 5)).cell? ((⟨q, 0, none⟩ : Addr).add j) = some v := by
    intro j v hj
    cases j with
    | zero => cases hj; exact hq2
    | succ j => simp at hj
  have HF : 0 + [u8 255].length ≤ (Array.replicate n (u8 0)).size := by simp; omega
  have HO : ∀ v ∈ [u8 255], v.oneCell' = true := by intro v hv; simp at hv; subst hv; rfl
  have HC : ((Array.replicate n (u8 0)).toList.take 0 ++ ([u8 255] ++ (Array.replicate n (u8 0)).toList.drop (0 + [u8 255].length))).toArray = (half8 n 1).toArray := by
    simp [half8]
  have hb1 : Below w.heap.size w ((w.alloc (.cells (Array.replicate n (u8 0)) 5)).setRow w.heap.size (half8 n 1).toArray) := below_setRow ((Below.refl _ _).alloc (Nat.le_refl _) _) (Nat.le_refl _) _
  have hh1 := setRow_heap _ w.heap.size _ (half8 n 1).toArray _ _ hsl
  obtain ⟨w1, hw1⟩ : ∃ w1, w1 = (w.alloc (.cells (Array.replicate n (u8 0)) 5)).setRow w.heap.size (half8 n 1).toArray := ⟨_, rfl⟩
  rw [← hw1] at hb1 hh1
  have HS := Lib.hid HS
  have HC := Lib.hid HC
  have HO := Lib.hid HO
  have HW := Lib.hid hw1
  clear hw1
  go_wp2_with (refine wpList_copy_own rfl (.tmp 31) (.tmp 32) 37 37 rfl 5 Tryz.underlying37 (by kernel_rfl) w.heap.size 0 n n ⟨q,0,none⟩ 1 1 rfl rfl (Array.replicate n (u8 0)) 5 hsl [u8 255] HM HS.out HF HO.out ?_; rw [HC.out, ← HW.out])
  go_loopw [8] (fun i wr => ∃ m : Nat, 1 ≤ m ∧ m ≤ n ∧ i = .int .i64 m ∧ Below w.heap.size w wr ∧ Hid (wr.heap[w.heap.size]? = some (.cells (half8 n m).toArray 5 (0, 0)))) (fun i _ => n - (RowKit.intOf i).toNat)
  case atStart => exact ⟨1, Nat.le_refl _, h0, by simp, hb1, hh1⟩
  case round =>
    obtain ⟨m, hm1, hmn, rfl, hbr, hhr⟩ := hrel
    have m0 : (0 : Int) ≤ (m : Int) := by omega
    have m1 : (m : Int) ≤ (n : Int) := by omega
    by_cases hlt : m < n
    · have hnm : ¬ n = m := by omega
      have hc1 : IntKind.i64.wrap ((m : Int) + ((min m (n - m) : Nat) : Int)) = ((m + min m (n - m) : Nat) : Int) := by rw [IntWalk.i64_in _ (by omega)]; omega
      go_wp2_with fail
      apply wp_region_rel 8 (fun e wr' => Below w.heap.size w wr' ∧ wr'.heap[w.heap.size]? = some (.cells (half8 n (match e 7 with | none => m | some _ => m + min m (n - m))).toArray 5 (0, 0))) [[], [], [], [], [], [], [], []]
      · kernel_rfl
      · kernel_rfl
      · exact ⟨hbr.drew, hhr.out⟩
      · kernel_rfl
      simp only [List.take_succ_cons, List.take_zero, List.drop_succ_cons, List.drop_zero]
      iterate 7 (apply rel_val; (· rfl); (· (intro e' w' hD he hJ; skip; refine relv_of (by (go_simp; first | rfl | exact ⟨rfl, rfl⟩)) ⟨rfl, ?_⟩; exact hJ)); simp only [Act.put, List.setIfInBounds_toArray, List.set_cons_zero, List.set_cons_succ])
      apply rel_val
      · rfl
      · intro e' w' hD he hJ
        rw [he] at hJ
        obtain ⟨hJ1, hJ2⟩ := hJ
        refine relv_of (run_copy7 n m hmn h0 w.heap.size w' hJ2 _ _ rfl rfl) ⟨rfl, below_setRow hJ1 (Nat.le_refl _) _, ?_⟩
        exact setRow_heap _ _ _ _ _ _ hJ2
      simp only [Act.put, List.setIfInBounds_toArray, List.set_cons_zero, List.set_cons_succ]
      apply rel_nil
      rintro w5 ⟨hJ5, hJ6⟩
      have hJ6 := Lib.hid hJ6
      go_wp2
      refine ⟨⟨m + min m (n - m), ?_, ?_, (by congr 1), hJ5, hJ6⟩, by simp [RowKit.intOf]; omega⟩
      · omega
      · omega
    · have hmn' : m = n := by omega
      subst hmn'
      go_wp2_with fail
      go_ret
      refine ⟨⟨_, rfl, Nat.le_refl _, ?_⟩, hbr⟩
      rw [hhr.out]; simp [half8]
end Go.Proofs.YthghhcnpbehaiaaGreat
