/- Tags: read. -/
import Derived.Test.YthghhcnpbehaiaaGreatFa06
import Derived.Test.YthghhcnpbehaiaaGreatFa15

namespace Go.Proofs.YthghhcnpbehaiaaGreat
open Go.RowKit

theorem is177 (x : Int) (w : World) : Calls Tryz.prog 177 #[.int .u8 x] w fun e w' => e = .returned (.bool (x != 255)) ∧ w = w' := by
  go_enter Tryz.func177, Tryz.ntmps177
  go_wp2
  go_ret
  exact ⟨by simp; try rfl, rfl⟩

set_option maxHeartbeats 2000000 in
set_option maxRecDepth 100000 in
theorem index202 (l : List Int) (b off cap : Nat) (w : World) (hr : Row w b off (l.map u8)) (hl : l.length ≤ 100000) :
    Calls Tryz.prog 202 #[.slice (some ⟨b, off, none⟩) l.length cap, .func (Fn.func 177) #[] #[]] w fun e w' => (∃ r, e = .returned (i64 r) ∧ (0 ≤ r ↔ ∃ x ∈ l, x ≠ 255)) ∧ w = w' := by
  go_enter Tryz.func202, Tryz.ntmps202
  go_wp2_with fail
  go_loopw [8] (fun i wr => ∃ k : Nat, k ≤ l.length ∧ i = .int .i64 k ∧ wr = w ∧ ∀ j x, j < k → l[j]? = some x → x = 255) (fun i _ => l.length - (RowKit.intOf i).toNat)
  case atStart => exact ⟨0, Nat.zero_le _, rfl, rfl, fun j x h => absurd h (by omega)⟩
  case round =>
    obtain ⟨k, hk, rfl, rfl, hall⟩ := hrel
    have k0 : (0 : Int) ≤ (k : Int) := by omega
    by_cases hlt : k < l.length
    · obtain ⟨x, hx⟩ : ∃ x, l[k]? = some x := ⟨l[k], List.getElem?_eq_getElem hlt⟩
      have c0 : wr.cell? ⟨b, off + k, none⟩ = some (Value.int .u8 x) := hr.cell k (by rw [List.getElem?_map, hx]; rfl)
      have hkw : IntKind.i64.wrap ((k : Int) + 1) = ((k + 1 : Nat) : Int) := by rw [IntWalk.i64_in _ (by omega)]; omega
      have HA := Lib.hid hall
      have HX := Lib.hid hx
      clear hall hx
      by_cases h255 : x = 255
      · subst h255
        go_wp2_with (go_at_call 177; refine (is177 _ _).mono ?_; rintro e w' ⟨rfl, rfl⟩)
        refine ⟨⟨k + 1, by omega, ?_, trivial, fun j x hj hx => ?_⟩, by simp [RowKit.intOf]; omega⟩
        · first | rfl | (congr 1; done) | (congr 1; omega)
        · by_cases hjk : j = k
          · subst hjk; have := HX.out; rw [hx] at this; exact Option.some.inj this
          · exact HA.out j x (by omega) hx
      · have hne : (x != 255) = true := by simpa using h255
        go_wp2_with (go_at_call 177; refine (is177 _ _).mono ?_; rw [hne]; rintro e w' ⟨rfl, rfl⟩)
        go_ret
        exact ⟨⟨_, rfl, ⟨fun _ => ⟨x, List.mem_of_getElem? HX.out, h255⟩, fun _ => k0⟩⟩, rfl⟩
    · have hkl : k = l.length := by omega
      subst hkl
      go_wp2_with fail
      go_ret
      refine ⟨⟨_, rfl, ⟨fun h => absurd h (by decide), fun ⟨x, hx, hne⟩ => ?_⟩⟩, rfl⟩
      obtain ⟨j, hj⟩ := List.mem_iff_getElem?.1 hx
      exact absurd (hall j x (List.getElem?_eq_some_iff.1 hj).1 hj) hne

theorem contains176 (l : List Int) (b off cap : Nat) (w : World) (hr : Row w b off (l.map u8)) (hl : l.length ≤ 100000) (r : Bool) (h : r = true ↔ ∃ x ∈ l, x ≠ 255) :
    Calls Tryz.prog 176 #[.slice (some ⟨b, off, none⟩) l.length cap, .func (Fn.func 177) #[] #[]] w fun e w' => e = .returned (.bool r) ∧ w = w' := by
  go_enter Tryz.func176, Tryz.ntmps176
  go_wp2_with (go_at_call 202; refine (index202 l b off cap _ hr hl).mono ?_; rintro e w' ⟨⟨r1, rfl, hr1⟩, rfl⟩)
  go_ret
  refine ⟨?_, rfl⟩
  have : decide (0 ≤ r1) = r := by
    cases r
    · simp only [Bool.false_eq_true, false_iff] at h; simp [hr1]; intro x hx; exact Classical.byContradiction fun hn => h ⟨x, hx, hn⟩
    · simp only [true_iff] at h; simpa [hr1] using h
  simp [← this]
  exact hr1.symm

set_option maxHeartbeats 2000000 in
set_option maxRecDepth 100000 in
theorem read144_erased (n : Nat) (hn : 40 ≤ n ∧ n ≤ 80) (b off cap : Nat) (w : World) (hr : Row w b off ((List.replicate n 255).map u8)) :
    Calls Tryz.prog 144 #[.slice (some ⟨b, off, none⟩) n cap] w fun e w' => e = .returned (.tuple #[.slice none 0 0, .agg #[i64 0, i64 0, i64 0, i64 0], i64 0]) ∧ Below w.heap.size w w' := by
  have n3 : IntKind.i64.wrap ((n : Int) - 16) = (n : Int) - 16 := IntWalk.i64_in _ (by omega)
  have hc := fun w' (hb : Below w.heap.size w w') => contains176 (List.replicate n 255) b off cap w' (hr.below hb) (by simp; omega) false (by simp)
  simp only [List.length_replicate] at hc
  go_enter Tryz.func144, Tryz.ntmps144
  go_wp2_with fail
  refine (in175_yes _ _ _ (by omega) (by omega) _).mono ?_; rintro e w' ⟨rfl, rfl⟩
  go_wp2_with fail
  refine (hc _ (by (repeat (first | exact Below.refl _ _ | assumption | (with_reducible refine Below.drew ?_) | (with_reducible refine below_drewN' ?_ _) | (with_reducible refine ext_alloc ?_ ?_; · (first | omega | (simp only [World.size_alloc, World.size_setCell, World.size_drew, World.heap_drewN]; omega) | (simp; omega))) | (with_reducible refine ext_setCell ?_ ?_; · (first | omega | (simp only [World.size_alloc, World.size_setCell, World.size_drew, World.heap_drewN]; omega) | (simp; omega))) | (refine ext_call (by assumption) ?_ ?_; · (first | omega | (simp only [World.size_alloc, World.size_setCell, World.size_drew, World.heap_drewN]; omega) | (simp; omega))))))).mono ?_; rintro e w' ⟨rfl, rfl⟩
  go_wp2_with fail
  exact bodyPost_ret (v := .tuple #[.slice none 0 0, .agg #[i64 0, i64 0, i64 0, i64 0], i64 0]) (by simp [results, Tryz.results144, go_sem, *]) rfl ⟨rfl, by (repeat (first | exact Below.refl _ _ | assumption | (with_reducible refine Below.drew ?_) | (with_reducible refine below_drewN' ?_ _) | (with_reducible refine ext_alloc ?_ ?_; · (first | omega | (simp only [World.size_alloc, World.size_setCell, World.size_drew, World.heap_drewN]; omega) | (simp; omega))) | (with_reducible refine ext_setCell ?_ ?_; · (first | omega | (simp only [World.size_alloc, World.size_setCell, World.size_drew, World.heap_drewN]; omega) | (simp; omega))) | (refine ext_call (by assumption) ?_ ?_; · (first | omega | (simp only [World.size_alloc, World.size_setCell, World.size_drew, World.heap_drewN]; omega) | (simp; omega)))))⟩
end Go.Proofs.YthghhcnpbehaiaaGreat

/- Tags: a laid page is read. -/
namespace Go.Proofs.YthghhcnpbehaiaaGreat
open Go.RowKit

def tailOf (d : List Int) (t : Tag) : List Int := [74, t.kind] ++ be 2 t.page ++ be 4 t.seq ++ be 3 t.epoch ++ be 4 (crcOf (bodyOf d t)) ++ [0]
theorem rawOf_eq (d : List Int) (t : Tag) : rawOf d t = d ++ tailOf d t := by simp [rawOf, tailOf, bodyOf]
theorem tailOf_length (d : List Int) (t : Tag) : (tailOf d t).length = 16 := by simp [tailOf, be_length]
theorem numOf_be2 (n : Int) (h0 : 0 ≤ n) (h1 : n ≤ 65535) : numOf (be 2 n) = n := by simp [be, numOf, numFrom]; omega
theorem numOf_be3 (n : Int) (h0 : 0 ≤ n) (h1 : n ≤ 16777215) : numOf (be 3 n) = n := by simp [be, numOf, numFrom]; omega
theorem numOf_be4 (n : Int) (h0 : 0 ≤ n) (h1 : n ≤ 4294967295) : numOf (be 4 n) = n := by simp [be, numOf, numFrom]; omega

theorem Fresh.mono {B B' : Nat} {w : World} {l : List Int} {v : Value} (h : Fresh B w l v) (hb : B' ≤ B) : Fresh B' w l v := by
  obtain ⟨g, c, e1, e2, e3⟩ := h; exact ⟨g, c, e1, Nat.le_trans hb e2, e3⟩
theorem Fresh.below {B : Nat} {w w' : World} {l : List Int} {v : Value} (h : Fresh B w l v) (hb : Below w.heap.size w w') : Fresh B w' l v := by
  obtain ⟨g, c, e1, e2, e3, e4, e5⟩ := h; exact ⟨g, c, e1, e2, Nat.lt_of_lt_of_le e3 hb.size, e4, e5.below hb⟩

theorem row_part {w : World} {b off : Nat} {l a m z : List Int} (h : Row w b off (l.map u8)) (e : l = a ++ (m ++ z)) : Row w b (off + a.length) (m.map u8) :=
  h.sub fun i v hi => by
    have hl : i < m.length := by have := (List.getElem?_eq_some_iff.1 hi).1; simpa using this
    subst e
    rw [List.getElem?_map] at hi ⊢
    rw [List.getElem?_append_right (by omega), show a.length + i - a.length = i by omega, List.getElem?_append_left hl]
    exact hi

set_option maxHeartbeats 2000000 in
set_option maxRecDepth 100000 in
theorem read144 (t : Tag) (h : t.Ok) (d : List Int) (hd : 24 ≤ d.length ∧ d.length ≤ 64) (hb : ∀ x ∈ d, 0 ≤ x ∧ x ≤ 255) (n : Nat) (hn : n = d.length + 16) (b off cap : Nat) (hcap : n ≤ cap) (w : World) (hr : Row w b off ((rawOf d t).map u8)) :
    Calls Tryz.prog 144 #[.slice (some ⟨b, off, none⟩) n cap] w fun e w' => (∃ v, e = .returned (.tuple #[v, t.v, i64 1]) ∧ Fresh w.heap.size w' d v) ∧ Below w.heap.size w w' := by
  have hlen : (rawOf d t).length = n := by rw [rawOf_eq, List.length_append, tailOf_length, hn]
  have n3 : IntKind.i64.wrap ((n : Int) - 16) = (d.length : Int) := by rw [IntWalk.i64_in _ (by omega)]; omega
  have hc := fun w' (hb : Below w.heap.size w w') => contains176 (rawOf d t) b off cap w' (hr.below hb) (by omega) true (by simp; exact ⟨74, by simp [rawOf, bodyOf], by decide⟩)
  rw [hlen] at hc
  have l1' : (24 : Int) ≤ (d.length : Int) := by omega
  have l2' : (d.length : Int) ≤ 64 := by omega
  have d0 : (0 : Int) ≤ (d.length : Int) := by omega
  have dn : (d.length : Int) ≤ (n : Int) := by omega
  have n16 : n - d.length = 16 := by omega
  have c16 : (16 : Int) ≤ ((cap - d.length : Nat) : Int) := by omega
  have c17 : 16 ≤ cap - d.length := by omega
  have dc : ¬ (cap = d.length) := by omega
  have dc' : ¬ (d.length = cap) := by omega
  have HC := Lib.hid hc
  have HN := Lib.hid hn
  clear hc hn
  go_enter Tryz.func144, Tryz.ntmps144
  go_wp2_with fail
  refine (in175_yes _ _ _ l1' l2' _).mono ?_; rintro e w' ⟨rfl, rfl⟩
  go_wp2_with fail
  refine Calls.mono (HC.out _ ?hb) ?_
  case hb => (repeat (first | exact Below.refl _ _ | assumption | (with_reducible refine Below.drew ?_) | (with_reducible refine below_drewN' ?_ _) | (with_reducible refine ext_alloc ?_ ?_; · (first | omega | (simp only [World.size_alloc, World.size_setCell, World.size_drew, World.heap_drewN]; omega) | (simp; omega))) | (with_reducible refine ext_setCell ?_ ?_; · (first | omega | (simp only [World.size_alloc, World.size_setCell, World.size_drew, World.heap_drewN]; omega) | (simp; omega))) | (refine ext_call (by assumption) ?_ ?_; · (first | omega | (simp only [World.size_alloc, World.size_setCell, World.size_drew, World.heap_drewN]; omega) | (simp; omega)))))
  rintro e w' ⟨rfl, rfl⟩
  go_wp2_with fail
  generalize cap - d.length = c2 at *
  have i4 : (4 : Int) ≤ (c2 : Int) := by omega
  have i8 : (8 : Int) ≤ (c2 : Int) := by omega
  have i11 : (11 : Int) ≤ (c2 : Int) := by omega
  have i15 : (15 : Int) ≤ (c2 : Int) := by omega
  have m2 : ¬ (c2 = 2) := by omega
  have m4 : ¬ (c2 = 4) := by omega
  have m8 : ¬ (c2 = 8) := by omega
  have m11 : ¬ (c2 = 11) := by omega
  have hw2 : Below w.heap.size w (w.alloc (.cells #[i64 0, i64 0, i64 0, i64 0] 105)) := (Below.refl _ _).alloc (Nat.le_refl _) _
  generalize hw1e : w.alloc (.cells #[i64 0, i64 0, i64 0, i64 0] 105) = w1 at *
  have z1 : w.heap.size < w1.heap.size := by rw [← hw1e]; simp
  have f0 : Row w1 w.heap.size 0 [i64 0, i64 0, i64 0, i64 0] := by rw [← hw1e]; exact Row.new _ _ _
  clear hw1e
  have hr1 : Row w1 b off ((rawOf d t).map u8) := hr.below hw2
  have hrw : rawOf d t = d ++ ([74, t.kind] ++ (be 2 t.page ++ (be 4 t.seq ++ (be 3 t.epoch ++ (be 4 (crcOf (bodyOf d t)) ++ [0]))))) := by simp [rawOf, bodyOf]
  have hcl := crcOf_lo (bodyOf d t)
  have hch := crcOf_hi (bodyOf d t)
  have r0 := row_part hr1 hrw
  have r1 := row_part (a := d ++ [74, t.kind]) (m := be 2 t.page) (z := be 4 t.seq ++ (be 3 t.epoch ++ (be 4 (crcOf (bodyOf d t)) ++ [0]))) hr1 (by rw [hrw]; simp)
  have r2 := row_part (a := d ++ [74, t.kind] ++ be 2 t.page) (m := be 4 t.seq) (z := be 3 t.epoch ++ (be 4 (crcOf (bodyOf d t)) ++ [0])) hr1 (by rw [hrw]; simp)
  have r3 := row_part (a := d ++ [74, t.kind] ++ be 2 t.page ++ be 4 t.seq) (m := be 3 t.epoch) (z := be 4 (crcOf (bodyOf d t)) ++ [0]) hr1 (by rw [hrw]; simp)
  have r4 := row_part (a := d ++ [74, t.kind] ++ be 2 t.page ++ be 4 t.seq ++ be 3 t.epoch) (m := be 4 (crcOf (bodyOf d t))) (z := [0]) hr1 (by rw [hrw]; simp)
  have r5 := row_part (a := d ++ [74, t.kind] ++ be 2 t.page ++ be 4 t.seq ++ be 3 t.epoch ++ be 4 (crcOf (bodyOf d t))) (m := [0]) (z := []) hr1 (by rw [hrw]; simp)
  have rb := row_part (a := []) (m := bodyOf d t) (z := be 4 (crcOf (bodyOf d t)) ++ [0]) hr1 (by simp [rawOf])
  simp only [List.length_append, be_length, List.length_cons, List.length_nil, Nat.zero_add, Nat.add_zero, ← Nat.add_assoc, Nat.reduceAdd] at r0 r1 r2 r3 r4 r5 rb
  have c74 : w1.cell? ⟨b, off + d.length, none⟩ = some (u8 74) := r0.cell 0 rfl
  have ckd : w1.cell? ⟨b, off + d.length + 1, none⟩ = some (u8 t.kind) := r0.cell 1 rfl
  have c15 : w1.cell? ⟨b, off + d.length + 2 + 2 + 4 + 3 + 4, none⟩ = some (u8 0) := r5.cell 0 rfl
  replace r2 : Row w1 b (off + d.length + 4) ((be 4 t.seq).map u8) := r2
  replace r3 : Row w1 b (off + d.length + 8) ((be 3 t.epoch).map u8) := r3
  replace r4 : Row w1 b (off + d.length + 11) ((be 4 (crcOf (bodyOf d t))).map u8) := r4
  replace c15 : w1.cell? ⟨b, off + d.length + 15, none⟩ = some (u8 0) := c15
  have q1 : ∀ wx, Below w1.heap.size w1 wx → Calls Tryz.prog 178 #[.slice (some ⟨b, off + d.length + 2, none⟩) 2 (c2 - 2)] wx fun e w' => e = .returned (i64 t.page) ∧ wx = w' := fun wx hb => by
    have := number178 (be 2 t.page) b (off + d.length + 2) (c2 - 2) wx (r1.below hb) (by simp [be_length]) (be_byte _ _)
    rw [be_length, numOf_be2 _ h.p0 h.p1] at this; exact this
  have q2 : ∀ wx, Below w1.heap.size w1 wx → Calls Tryz.prog 178 #[.slice (some ⟨b, off + d.length + 4, none⟩) 4 (c2 - 4)] wx fun e w' => e = .returned (i64 t.seq) ∧ wx = w' := fun wx hb => by
    have := number178 (be 4 t.seq) b (off + d.length + 4) (c2 - 4) wx (r2.below hb) (by simp [be_length]) (be_byte _ _)
    rw [be_length, numOf_be4 _ h.s0 h.s1] at this; exact this
  have q3 : ∀ wx, Below w1.heap.size w1 wx → Calls Tryz.prog 178 #[.slice (some ⟨b, off + d.length + 8, none⟩) 3 (c2 - 8)] wx fun e w' => e = .returned (i64 t.epoch) ∧ wx = w' := fun wx hb => by
    have := number178 (be 3 t.epoch) b (off + d.length + 8) (c2 - 8) wx (r3.below hb) (by simp [be_length]) (be_byte _ _)
    rw [be_length, numOf_be3 _ h.e0 h.e1] at this; exact this
  have q4 : ∀ wx, Below w1.heap.size w1 wx → Calls Tryz.prog 178 #[.slice (some ⟨b, off + d.length + 11, none⟩) 4 (c2 - 11)] wx fun e w' => e = .returned (i64 (crcOf (bodyOf d t))) ∧ wx = w' := fun wx hb => by
    have := number178 (be 4 (crcOf (bodyOf d t))) b (off + d.length + 11) (c2 - 11) wx (r4.below hb) (by simp [be_length]) (be_byte _ _)
    rw [be_length, numOf_be4 _ hcl hch] at this; exact this
  have Q1 := Lib.hid q1
  have Q2 := Lib.hid q2
  have Q3 := Lib.hid q3
  have Q4 := Lib.hid q4
  have RB := Lib.hid rb
  have HR1 := Lib.hid hr1
  have hkw : IntKind.i64.wrap t.kind = t.kind := IntWalk.i64_in _ (by have := h.k1; have := h.k3; omega)
  clear q1 q2 q3 q4 r0 r1 r2 r3 r4 r5 rb hr1 hrw
  apply wp_region_rel 15 (fun e w' => Below w1.heap.size w1 w' ∧ (e 14 = none → w'.heap.size = w1.heap.size) ∧ (∀ u, e 14 = some u → Row w' w1.heap.size 0 [i64 0, i64 0, i64 0, i64 0])) [[], [0], [1], [2], [], [4], [5], [], [7], [8], [], [10], [11], [3, 6, 9, 12], []]
  · kernel_rfl
  · kernel_rfl
  · exact ⟨(Below.refl _ _).drew, fun _ => rfl, by simp⟩
  · kernel_rfl
  simp only [List.take_succ_cons, List.take_zero, List.drop_succ_cons, List.drop_zero]
  iterate 6 (apply rel_val; (· rfl); (· (intro e' w' hD he hJ; (have ckd' := keepc hJ.1 ckd); refine relv_of (by (go_simp; first | rfl | exact ⟨rfl, rfl⟩)) ⟨rfl, ?_⟩; exact hJ)); simp only [Act.put, List.setIfInBounds_toArray, List.set_cons_zero, List.set_cons_succ])
  (apply rel_val (v := i64 t.page); (· rfl); (· (intro e' w' hD he hJ; refine rel_call (by (go_simp; first | rfl | exact ⟨⟨rfl, rfl⟩, rfl⟩)) ?_; refine (Q1.out _ hJ.1).mono ?_; rintro e w'' ⟨rfl, rfl⟩; exact ⟨_, rfl, rfl, hJ⟩)); simp only [Act.put, List.setIfInBounds_toArray, List.set_cons_zero, List.set_cons_succ])
  iterate 2 (apply rel_val; (· rfl); (· (intro e' w' hD he hJ; skip; refine relv_of (by (go_simp; first | rfl | exact ⟨rfl, rfl⟩)) ⟨rfl, ?_⟩; exact hJ)); simp only [Act.put, List.setIfInBounds_toArray, List.set_cons_zero, List.set_cons_succ])
  (apply rel_val (v := i64 t.seq); (· rfl); (· (intro e' w' hD he hJ; refine rel_call (by (go_simp; first | rfl | exact ⟨⟨rfl, rfl⟩, rfl⟩)) ?_; refine (Q2.out _ hJ.1).mono ?_; rintro e w'' ⟨rfl, rfl⟩; exact ⟨_, rfl, rfl, hJ⟩)); simp only [Act.put, List.setIfInBounds_toArray, List.set_cons_zero, List.set_cons_succ])
  iterate 2 (apply rel_val; (· rfl); (· (intro e' w' hD he hJ; skip; refine relv_of (by (go_simp; first | rfl | exact ⟨rfl, rfl⟩)) ⟨rfl, ?_⟩; exact hJ)); simp only [Act.put, List.setIfInBounds_toArray, List.set_cons_zero, List.set_cons_succ])
  (apply rel_val (v := i64 t.epoch); (· rfl); (· (intro e' w' hD he hJ; refine rel_call (by (go_simp; first | rfl | exact ⟨⟨rfl, rfl⟩, rfl⟩)) ?_; refine (Q3.out _ hJ.1).mono ?_; rintro e w'' ⟨rfl, rfl⟩; exact ⟨_, rfl, rfl, hJ⟩)); simp only [Act.put, List.setIfInBounds_toArray, List.set_cons_zero, List.set_cons_succ])
  (apply rel_val; (· rfl); (· (intro e' w' hD he hJ; skip; refine relv_of (by (go_simp; first | rfl | exact ⟨rfl, rfl⟩)) ⟨rfl, ?_⟩; exact hJ)); simp only [Act.put, List.setIfInBounds_toArray, List.set_cons_zero, List.set_cons_succ])
  apply rel_val (v := ptr w1.heap.size)
  · rfl
  · intro e' w' hD he hJ
    have hs := hJ.2.1 he
    refine relv_of (u := .pointer (some ⟨w'.heap.size, 0, none⟩)) (by (go_simp; first | rfl | exact ⟨rfl, rfl⟩)) ⟨by rw [hs], hJ.1.alloc (Nat.le_of_eq hs.symm) _, fun h0 => absurd h0 (by rw [Env.put_self]; simp), fun u hu => ?_⟩
    rw [← hs]
    exact Row.new _ _ _
  simp only [Act.put, List.setIfInBounds_toArray, List.set_cons_zero, List.set_cons_succ]
  apply rel_nil
  intro w2 hJ
  have hb2 := hJ.1
  have f2 := hJ.2.2 _ rfl
  clear hJ
  have s0 := f2.cell0 0 rfl
  have s1 := f2.cell0 1 rfl
  have s2 := f2.cell0 2 rfl
  have s3 := f2.cell0 3 rfl
  have u0 := f2.free0 0 rfl
  have u1 := f2.free0 1 rfl
  have u2 := f2.free0 2 rfl
  have u3 := f2.free0 3 rfl
  have f3 := (((f2.setCell 0 (i64 t.kind)).setCell 1 (i64 t.page)).setCell 2 (i64 t.seq)).setCell 3 (i64 t.epoch)
  simp only [List.set_cons_zero, List.set_cons_succ, Nat.zero_add] at f3
  have hb3 : Below w1.heap.size w1 ((((w2.setCell ⟨w1.heap.size, 0, none⟩ (i64 t.kind)).setCell ⟨w1.heap.size, 1, none⟩ (i64 t.page)).setCell ⟨w1.heap.size, 2, none⟩ (i64 t.seq)).setCell ⟨w1.heap.size, 3, none⟩ (i64 t.epoch)) := by (repeat (first | exact Below.refl _ _ | assumption | (with_reducible refine Below.drew ?_) | (with_reducible refine below_drewN' ?_ _) | (with_reducible refine ext_alloc ?_ ?_; · (first | omega | (simp only [World.size_alloc, World.size_setCell, World.size_drew, World.heap_drewN]; omega) | (simp; omega))) | (with_reducible refine ext_setCell ?_ ?_; · (first | omega | (simp only [World.size_alloc, World.size_setCell, World.size_drew, World.heap_drewN]; omega) | (simp; omega))) | (refine ext_call (by assumption) ?_ ?_; · (first | omega | (simp only [World.size_alloc, World.size_setCell, World.size_drew, World.heap_drewN]; omega) | (simp; omega)))))
  go_wp2_with fail
  generalize (((w2.setCell ⟨w1.heap.size, 0, none⟩ (i64 t.kind)).setCell ⟨w1.heap.size, 1, none⟩ (i64 t.page)).setCell ⟨w1.heap.size, 2, none⟩ (i64 t.seq)).setCell ⟨w1.heap.size, 3, none⟩ (i64 t.epoch) = w3 at *
  have hbody : (bodyOf d t).length = d.length + 11 := by simp [bodyOf, be_length]
  have hbb : ∀ x ∈ bodyOf d t, 0 ≤ x ∧ x ≤ 255 := by
    intro x hx
    simp only [bodyOf, List.mem_append] at hx
    rcases hx with (((hx | hx) | hx) | hx) | hx
    · exact hb x hx
    · simp at hx; have := h.k1; have := h.k3; rcases hx with rfl | rfl <;> omega
    · exact be_byte _ _ x hx
    · exact be_byte _ _ x hx
    · exact be_byte _ _ x hx
  have q5 : ∀ wx, Below w1.heap.size w1 wx → Calls Tryz.prog 179 #[.slice (some ⟨b, off, none⟩) (d.length + 11) cap] wx fun e w' => e = .returned (.int .u32 (crcOf (bodyOf d t))) ∧ wx = w' := fun wx hbx => by
    have := of179 (bodyOf d t) b off cap wx (RB.out.below hbx) (by omega) hbb (by omega)
    rw [hbody] at this; exact this
  have Q5 := Lib.hid q5
  have z3 := hb3.size
  have cw : IntKind.i64.wrap (crcOf (bodyOf d t)) = crcOf (bodyOf d t) := IntWalk.i64_in _ (by omega)
  have dw : IntKind.i64.wrap ((d.length : Int) + 11) = (d.length : Int) + 11 := IntWalk.i64_in _ (by omega)
  have dle0 : (d.length : Int) ≤ (cap : Int) := by have := HN.out; omega
  have dle : (d.length : Int) + 11 ≤ (cap : Int) := by have := HN.out; omega
  have d11 : (0 : Int) ≤ (d.length : Int) + 11 := by omega
  have dto : ((d.length : Int) + 11).toNat = d.length + 11 := by omega
  have lt3 : w1.heap.size < w3.heap.size := f3.lt (by simp)
  have HBB := Lib.hid hbb
  clear q5 hbb hbody s0 s1 s2 s3 u0 u1 u2 u3 f2
  have C74 := keepc hb3 c74
  have C15 := keepc hb3 c15
  have lb3 : b < w3.heap.size := World.block_lt_of_cell? _ _ C74
  have g0 := f3.cell0 0 rfl
  have g1 := f3.cell0 1 rfl
  have g2 := f3.cell0 2 rfl
  have g3 := f3.cell0 3 rfl
  refine wp_region_keep 26 (fun wJ => Below w3.heap.size w3 wJ) (by kernel_rfl) (by kernel_rfl) (by (repeat (first | exact Below.refl _ _ | assumption | (with_reducible refine Below.drew ?_) | (with_reducible refine below_drewN' ?_ _) | (with_reducible refine ext_alloc ?_ ?_; · (first | omega | (simp only [World.size_alloc, World.size_setCell, World.size_drew, World.heap_drewN]; omega) | (simp; omega))) | (with_reducible refine ext_setCell ?_ ?_; · (first | omega | (simp only [World.size_alloc, World.size_setCell, World.size_drew, World.heap_drewN]; omega) | (simp; omega))) | (refine ext_call (by assumption) ?_ ?_; · (first | omega | (simp only [World.size_alloc, World.size_setCell, World.size_drew, World.heap_drewN]; omega) | (simp; omega)))))) ?_
  simp only [List.take_succ_cons, List.take_zero, List.drop_succ_cons, List.drop_zero]
  iterate 13 (apply keep_yes; (· rfl); (· (intro w' hJ; (try obtain ⟨hc', hf'⟩ := bcell hJ); refine gives_of (by (go_simp; rfl)) rfl hJ)); simp only [Act.put, List.setIfInBounds_toArray, List.set_cons_zero, List.set_cons_succ])
  (apply keep_yes; (· rfl); (· (intro w' hJ; refine gives_call (v := i64 (crcOf (bodyOf d t))) (by (go_simp; first | rfl | exact ⟨⟨rfl, rfl⟩, rfl⟩)) ?_; refine (Q4.out _ (hb3.trans (hJ.mono z3))).mono ?_; rintro e w'' ⟨rfl, rfl⟩; exact ⟨rfl, hJ⟩)); simp only [Act.put, List.setIfInBounds_toArray, List.set_cons_zero, List.set_cons_succ])
  iterate 4 (apply keep_yes; (· rfl); (· (intro w' hJ; (try obtain ⟨hc', hf'⟩ := bcell hJ); refine gives_of (by (go_simp; rfl)) rfl hJ)); simp only [Act.put, List.setIfInBounds_toArray, List.set_cons_zero, List.set_cons_succ])
  (apply keep_yes; (· rfl); (· (intro w' hJ; refine gives_call (v := .int .u32 (crcOf (bodyOf d t))) (by (go_simp; first | rfl | exact ⟨⟨rfl, rfl⟩, rfl⟩)) ?_; refine (Q5.out _ (hb3.trans (hJ.mono z3))).mono ?_; rintro e w'' ⟨rfl, rfl⟩; exact ⟨rfl, hJ⟩)); simp only [Act.put, List.setIfInBounds_toArray, List.set_cons_zero, List.set_cons_succ])
  iterate 5 (apply keep_yes; (· rfl); (· (intro w' hJ; (try obtain ⟨hc', hf'⟩ := bcell hJ); refine gives_of (by (go_simp; rfl)) rfl hJ)); simp only [Act.put, List.setIfInBounds_toArray, List.set_cons_zero, List.set_cons_succ])
  (apply keep_yes; (· rfl); (· (intro w' hJ; refine gives_call (v := .bool true) (by (go_simp; first | rfl | exact ⟨⟨rfl, rfl⟩, rfl⟩)) ?_; refine (may180 t h _).mono ?_; rintro e w'' ⟨rfl, hbx⟩; exact ⟨rfl, ext_call hbx hJ.size hJ⟩)); simp only [Act.put, List.setIfInBounds_toArray, List.set_cons_zero, List.set_cons_succ])
  (apply keep_yes; (· rfl); (· (intro w' hJ; (try obtain ⟨hc', hf'⟩ := bcell hJ); refine gives_of (by (go_simp; rfl)) rfl hJ)); simp only [Act.put, List.setIfInBounds_toArray, List.set_cons_zero, List.set_cons_succ])
  refine keep_nil ?_
  intro w4 hb4
  have z4 := hb4.size
  replace g0 := keepc hb4 g0
  replace g1 := keepc hb4 g1
  replace g2 := keepc hb4 g2
  replace g3 := keepc hb4 g3
  have f4 := f3.below hb4
  have hb14 : Below w1.heap.size w1 w4 := hb3.trans (hb4.mono z3)
  have rd : Row w1 b off (d.map u8) := by
    have := row_part (a := []) (m := d) (z := tailOf d t) HR1.out (by rw [rawOf_eq]; rfl)
    simpa using this
  have RD := Lib.hid (rd.below hb14)
  have f5 := f0.below hb14
  have hw4 : Below w.heap.size w w4 := hw2.trans (hb14.mono (by omega))
  clear rd Q1 Q2 Q3 Q4 Q5
  have hk4 : ∀ wx, Below w4.heap.size w4 wx → wx.cell? ⟨w1.heap.size, 0, none⟩ = some (i64 t.kind) ∧ wx.cell? ⟨w1.heap.size, 1, none⟩ = some (i64 t.page) ∧ wx.cell? ⟨w1.heap.size, 2, none⟩ = some (i64 t.seq) ∧ wx.cell? ⟨w1.heap.size, 3, none⟩ = some (i64 t.epoch) := fun wx hbx => ⟨keepc hbx g0, keepc hbx g1, keepc hbx g2, keepc hbx g3⟩
  go_wp2_with fail
  apply wp_region_rel 6 (fun e w' => Below w4.heap.size w4 w' ∧ (∀ u, e 3 = some u → Fresh w4.heap.size w' d u)) [[], [], [0, 1], [2], [], [3]]
  · kernel_rfl
  · kernel_rfl
  · exact ⟨(Below.refl _ _).drew, by simp⟩
  · kernel_rfl
  simp only [List.take_succ_cons, List.take_zero, List.drop_succ_cons, List.drop_zero]
  iterate 3 (apply rel_val; (· rfl); (· (intro e' w' hD he hJ; skip; refine relv_of (by (go_simp; first | rfl | exact ⟨rfl, rfl⟩)) ⟨rfl, ?_⟩; exact hJ)); simp only [Act.put, List.setIfInBounds_toArray, List.set_cons_zero, List.set_cons_succ])
  apply rel_yes (φ := fun _ u => True)
  · rfl
  · exact ⟨undef, trivial⟩
  · intro e' w' hD he hJ
    refine rel_call (by (go_simp; first | rfl | exact ⟨⟨rfl, rfl⟩, rfl⟩)) ?_
    refine (clone70 d b off cap (RD.out.below hJ.1) (by omega) (by omega)).mono ?_
    rintro e w'' ⟨⟨v, rfl, hf⟩, hbb⟩
    refine ⟨_, rfl, trivial, ext_call hbb hJ.1.size hJ.1, fun u hu => ?_⟩
    rw [Env.put_self] at hu; cases hu
    exact hf.mono hJ.1.size
  intro v5 _
  simp only [Act.put, List.setIfInBounds_toArray, List.set_cons_zero, List.set_cons_succ]
  (apply rel_val (v := .agg #[i64 t.kind, i64 t.page, i64 t.seq, i64 t.epoch]); (· rfl); (· (intro e' w' hD he hJ; obtain ⟨g0', g1', g2', g3'⟩ := hk4 w' hJ.1; refine relv_of (u := .agg #[i64 t.kind, i64 t.page, i64 t.seq, i64 t.epoch]) (w := w') (by go_simp) ⟨rfl, ?_⟩; exact hJ)); simp only [Act.put, List.setIfInBounds_toArray, List.set_cons_zero, List.set_cons_succ])
  apply rel_yes (φ := fun x u => u = x 3)
  · rfl
  · exact ⟨_, rfl⟩
  · intro e' w' hD he hJ
    refine relv_of (u := v5) (w := w') (by (go_simp; done)) ⟨rfl, hJ⟩
  intro v hv
  obtain rfl : v = v5 := hv
  simp only [Act.put, List.setIfInBounds_toArray, List.set_cons_zero, List.set_cons_succ]
  apply rel_nil
  intro w5 hJ
  have hb5 := hJ.1
  have hf5 := hJ.2 v rfl
  have z5 := hb5.size
  clear hJ
  have f6 := f5.below hb5
  have s0 := f6.cell0 0 rfl
  have s1 := f6.cell0 1 rfl
  have s2 := f6.cell0 2 rfl
  have s3 := f6.cell0 3 rfl
  have u0 := f6.free0 0 rfl
  have u1 := f6.free0 1 rfl
  have u2 := f6.free0 2 rfl
  have u3 := f6.free0 3 rfl
  have hw5 : Below w.heap.size w w5 := hw4.trans (hb5.mono hw4.size)
  have hw6 : Below w.heap.size w ((((w5.setCell ⟨w.heap.size, 0, none⟩ (i64 t.kind)).setCell ⟨w.heap.size, 1, none⟩ (i64 t.page)).setCell ⟨w.heap.size, 2, none⟩ (i64 t.seq)).setCell ⟨w.heap.size, 3, none⟩ (i64 t.epoch)) := by (repeat (first | exact Below.refl _ _ | assumption | (with_reducible refine Below.drew ?_) | (with_reducible refine below_drewN' ?_ _) | (with_reducible refine ext_alloc ?_ ?_; · (first | omega | (simp only [World.size_alloc, World.size_setCell, World.size_drew, World.heap_drewN]; omega) | (simp; omega))) | (with_reducible refine ext_setCell ?_ ?_; · (first | omega | (simp only [World.size_alloc, World.size_setCell, World.size_drew, World.heap_drewN]; omega) | (simp; omega))) | (refine ext_call (by assumption) ?_ ?_; · (first | omega | (simp only [World.size_alloc, World.size_setCell, World.size_drew, World.heap_drewN]; omega) | (simp; omega)))))
  have hff : Fresh w.heap.size ((((w5.setCell ⟨w.heap.size, 0, none⟩ (i64 t.kind)).setCell ⟨w.heap.size, 1, none⟩ (i64 t.page)).setCell ⟨w.heap.size, 2, none⟩ (i64 t.seq)).setCell ⟨w.heap.size, 3, none⟩ (i64 t.epoch)) d v := by
    obtain ⟨g, c, e1, e2, e3, e4, e5⟩ := hf5
    refine ⟨g, c, e1, by omega, by simpa using e3, e4, ?_⟩
    have hne : w.heap.size ≠ g := by omega
    exact (((e5.setCell_ne (by exact hne) _).setCell_ne (by exact hne) _).setCell_ne (by exact hne) _).setCell_ne (by exact hne) _
  have HF := Lib.hid hff
  have HW := Lib.hid hw6
  clear hff hw6 hf5
  go_wp2_with fail
  exact bodyPost_ret (v := .tuple #[v, .agg #[i64 t.kind, i64 t.page, i64 t.seq, i64 t.epoch], i64 1]) (by simp [results, Tryz.results144, go_sem, *]) rfl (by refine ⟨⟨v, rfl, HF.out⟩, HW.out⟩)
end Go.Proofs.YthghhcnpbehaiaaGreat

/- leaf: what a page holds. -/
namespace Go.Proofs.YthghhcnpbehaiaaGreat
open Go.RowKit

/-- A struct of four cells is stored. -/
def st4 (w : World) (b : Nat) (t : Tag) : World := (((w.setCell ⟨b, 0, none⟩ (i64 t.kind)).setCell ⟨b, 1, none⟩ (i64 t.page)).setCell ⟨b, 2, none⟩ (i64 t.seq)).setCell ⟨b, 3, none⟩ (i64 t.epoch)
theorem Row.four {w : World} {b : Nat} {x y z u : Value} (h : Row w b 0 [x, y, z, u]) : w.cell? ⟨b, 0, none⟩ = some x ∧ w.cell? ⟨b, 1, none⟩ = some y ∧ w.cell? ⟨b, 2, none⟩ = some z ∧ w.cell? ⟨b, 3, none⟩ = some u :=
  ⟨h.cell0 0 rfl, h.cell0 1 rfl, h.cell0 2 rfl, h.cell0 3 rfl⟩
theorem Row.four' {w : World} {b : Nat} {x y z u : Value} (h : Row w b 0 [x, y, z, u]) : w.frozen? ⟨b, 0, none⟩ = false ∧ w.frozen? ⟨b, 1, none⟩ = false ∧ w.frozen? ⟨b, 2, none⟩ = false ∧ w.frozen? ⟨b, 3, none⟩ = false :=
  ⟨h.free0 0 rfl, h.free0 1 rfl, h.free0 2 rfl, h.free0 3 rfl⟩

theorem ChipAt.turns2 {M : Nat → Prop} {w0 w w' : World} {A : CA} {C C0 : Chip} (h : ChipAt w A C) (h0 : ChipAt w0 A C0) (hfs : C0.fs = C.fs) (hb : Turns M w w') (hm : ∀ k, M k → w0.heap.size ≤ k) : ChipAt w' A C := by
  have hnm : ∀ k, A.foot k → ¬ M k := fun k hk hM => by have := h0.flt hk; have := hm k hM; omega
  refine { h with str := h.str.turns hb (hnm _ (.inl rfl)), fs := ?_, row := fun i b n hb' hn => ⟨(h.row i b n hb' hn).1.turns hb (hnm _ (.inr (.inl rfl))), (hb.block _ (heap_lt (h.row i b n hb' hn).2) (hnm _ (.inr (.inr (List.mem_of_getElem? hn))))).trans (h.row i b n hb' hn).2⟩ }
  obtain ⟨a, cap, hv, hc, hr | ⟨b, o, ha, hr⟩⟩ := h.fs
  · exact ⟨a, cap, hv, hc, .inl hr⟩
  · by_cases hne : C.fs.flatMap Flt.cells = []
    · exact ⟨a, cap, hv, hc, .inl hne⟩
    · refine ⟨a, cap, hv, hc, .inr ⟨b, o, ha, hr.turns hb (fun hM => ?_)⟩⟩
      simp only [Value.slice.injEq] at hv
      obtain ⟨a2, cap2, hv2, hc2, hr2 | ⟨b2, o2, ha2, hr2⟩⟩ := h0.fs
      · rw [hfs] at hr2; exact hne hr2
      · simp only [Value.slice.injEq] at hv2
        have : a = a2 := hv.1.symm.trans hv2.1
        rw [ha, ha2] at this
        cases this
        have h1 := hr2.lt (by rw [hfs]; exact hne)
        have h2 := hm b hM
        omega

theorem leaf_end {w w1 W : World} {A : CA} {C C' : Chip} {d : List Int} {v : Value} {t : Tag} (h : ChipAt w A C) (h1 : ChipAt w1 A C') (hfs : C.fs = C'.fs) (ht : Turns A.foot w w1) (hb : Below w1.heap.size w1 W) {B : Nat} (hf : Fresh B W d v) (hlt : w.heap.size + 1 < B) :
    Fresh w.heap.size (st4 W (w.heap.size + 1) t) d v ∧ ChipAt (st4 W (w.heap.size + 1) t) A C' ∧ Turns A.foot w (st4 W (w.heap.size + 1) t) := by
  refine ⟨?_, ?_, ?_⟩
  · obtain ⟨g, c, e1, e2, e3, e4, e5⟩ := hf
    have hne : w.heap.size + 1 ≠ g := by omega
    exact ⟨g, c, e1, by omega, by simpa [st4] using e3, e4, (((e5.setCell_ne (by exact hne) _).setCell_ne (by exact hne) _).setCell_ne (by exact hne) _).setCell_ne (by exact hne) _⟩
  · have hT : Turns (fun k => k = w.heap.size + 1) W (st4 W (w.heap.size + 1) t) := by
      have h0 : (fun k => k = w.heap.size + 1) (w.heap.size + 1) := rfl
      unfold st4
      refine Turns.setCell (Turns.setCell (Turns.setCell (Turns.setCell (Turns.refl _ W) (.inl ?_) _) (.inl ?_) _) (.inl ?_) _) (.inl ?_) _ <;> exact h0
    exact (h1.below hb).turns2 h hfs hT (fun k hk => by subst hk; omega)
  · have hr : w.heap.size ≤ w.heap.size + 1 := by omega
    exact ((((ht.trans (Turns.of_below hb)).setCell (.inr hr) _).setCell (.inr hr) _).setCell (.inr hr) _).setCell (.inr hr) _

set_option maxHeartbeats 2000000 in
set_option maxRecDepth 100000 in
theorem look104 {w : World} {A : CA} {C : Chip} (h : ChipAt w A C) (p : Plc) (b : Blk) (hp : C.g.isB p = true) (hbk : C.at p.b = some b) (hoff : C.off = false) (ht : C.turn = 0) (ho : C.ops < 4611686018427387903)
    (t : Tag) (htk : t.Ok) (d : List Int) (hd : (d.length : Int) = C.g.Y) (hb : ∀ x ∈ d, 0 ≤ x ∧ x ≤ 255) (hpg : b.page p.p.toNat (C.g.Y + 16).toNat = rawOf d t) :
    Calls Tryz.prog 104 #[ptr A.c, .agg #[i64 p.b, i64 p.p]] w fun e w' => (∃ v, e = .returned (.tuple #[v, t.v, i64 1, i64 0]) ∧ Fresh w.heap.size w' d v) ∧ ChipAt w' A { C with ops := C.ops + 1 } ∧ Turns A.foot w w' := by
  have hgo := (Geo.ok_iff _).1 h.ok
  have hd2 : 24 ≤ d.length ∧ d.length ≤ 64 := by have := hgo.y1; have := hgo.y2; omega
  clear hgo
  have l1 : A.c < w.heap.size := h.flt (.inl rfl)
  have hnfo : ∀ k, w.heap.size ≤ k → ¬ A.foot k := fun k hk hf => by have := h.flt hf; omega
  have HPG := Lib.hid hpg
  have HD := Lib.hid hd
  have HBB := Lib.hid hb
  have HNF := Lib.hid hnfo
  clear hpg hd hb hnfo
  go_enter Tryz.func104, Tryz.ntmps104
  go_wp2_with fail
  refine (read43 (h.below (by (repeat (first | exact Below.refl _ _ | assumption | (with_reducible refine Below.drew ?_) | (with_reducible refine below_drewN' ?_ _) | (with_reducible refine ext_alloc ?_ ?_; · (first | omega | (simp only [World.size_alloc, World.size_setCell, World.size_drew, World.heap_drewN]; omega) | (simp; omega))) | (with_reducible refine ext_setCell ?_ ?_; · (first | omega | (simp only [World.size_alloc, World.size_setCell, World.size_drew, World.heap_drewN]; omega) | (simp; omega))) | (refine ext_call (by assumption) ?_ ?_; · (first | omega | (simp only [World.size_alloc, World.size_setCell, World.size_drew, World.heap_drewN]; omega) | (simp; omega))))))) p b hp hbk hoff ht ho).mono ?_
  rw [HPG.out]
  rintro e w1 ⟨⟨v, rfl, hf⟩, hC1, ht1⟩
  have zt := ht1.size
  simp only [World.size_alloc] at zt hf
  have f5 : Row w1 (w.heap.size + 1) 0 [i64 0, i64 0, i64 0, i64 0] := by
    have := (Row.new (w.alloc (.cells #[i64 p.b, i64 p.p] 75)) #[i64 0, i64 0, i64 0, i64 0] 105).turns ht1 (HNF.out _ (by simp))
    simpa using this
  have hT1 : Turns A.foot w w1 := (((Turns.refl _ w).alloc _).alloc _).trans ht1
  obtain ⟨g, c, rfl, g1, g2, g3, g4⟩ := hf
  have hrl : (rawOf d t).length = d.length + 16 := by rw [rawOf_eq, List.length_append, tailOf_length]
  have hread := read144 t htk d hd2 HBB.out (d.length + 16) rfl g 0 c (by omega) w1 g4
  rw [← hrl] at hread
  have HREAD := Lib.hid hread
  have HC1 := Lib.hid hC1
  have HT1 := Lib.hid hT1
  clear hread hC1 hT1 ht1 g4 hrl
  go_wp2_with fail
  refine HREAD.out.mono ?_
  rintro e w2 ⟨⟨v, rfl, hf⟩, hb2⟩
  have z2 := hb2.size
  have f5' := f5.below hb2
  have HF := Lib.hid hf
  clear hf f5
  have lt5 : w.heap.size + 1 < w2.heap.size := f5'.lt (by simp)
  go_wp2_with fail
  have f11 : Row (w2.alloc (.cells #[i64 t.kind, i64 t.page, i64 t.seq, i64 t.epoch] 105)) w2.heap.size 0 [i64 t.kind, i64 t.page, i64 t.seq, i64 t.epoch] := Row.new _ _ _
  have f6 := f5'.alloc (.cells #[i64 t.kind, i64 t.page, i64 t.seq, i64 t.epoch] 105)
  have hb3 : Below w1.heap.size w1 (w2.alloc (.cells #[i64 t.kind, i64 t.page, i64 t.seq, i64 t.epoch] 105)) := hb2.alloc z2 _
  have hF3 : Fresh w1.heap.size (w2.alloc (.cells #[i64 t.kind, i64 t.page, i64 t.seq, i64 t.epoch] 105)) d v := HF.out.below ((Below.refl _ _).alloc (Nat.le_refl _) _)
  generalize w2.alloc (.cells #[i64 t.kind, i64 t.page, i64 t.seq, i64 t.epoch] 105) = w3 at *
  have HF3 := Lib.hid hF3
  clear hF3
  have f11d : Row w3.drew w2.heap.size 0 [i64 t.kind, i64 t.page, i64 t.seq, i64 t.epoch] := f11
  have f6d : Row w3.drew (w.heap.size + 1) 0 [i64 0, i64 0, i64 0, i64 0] := f6
  have hb3d : Below w1.heap.size w1 w3.drew := hb3.drew
  have HF3d : Hid (Fresh w1.heap.size w3.drew d v) := HF3
  have hne : w2.heap.size ≠ w.heap.size + 1 := by omega
  obtain ⟨W, hW⟩ : ∃ W, w3.drew = W := ⟨_, rfl⟩
  rw [hW] at f11d f6d hb3d HF3d
  apply wp_region_rel 5 (fun e w' => Hid (w' = (match e 4 with | none => W | some _ => st4 W (w.heap.size + 1) t))) [[], [], [], [0], [1]]
  · kernel_rfl
  · kernel_rfl
  · exact hW
  · kernel_rfl
  simp only [List.take_succ_cons, List.take_zero, List.drop_succ_cons, List.drop_zero]
  have hk : ∀ (e' : Env) w', Hid (w' = (match e' 4 with | none => W | some _ => st4 W (w.heap.size + 1) t)) → Row w' w2.heap.size 0 [i64 t.kind, i64 t.page, i64 t.seq, i64 t.epoch] := fun e' w' hJ => by
    have hJ := hJ.out
    subst hJ
    cases e' 4
    · exact f11d
    · exact (((f11d.setCell_ne (by exact Ne.symm hne) _).setCell_ne (by exact Ne.symm hne) _).setCell_ne (by exact Ne.symm hne) _).setCell_ne (by exact Ne.symm hne) _
  iterate 1 (apply rel_val; (· rfl); (· (intro e' w' hD he hJ; skip; refine relv_of (by (go_simp; first | rfl | exact ⟨rfl, rfl⟩)) ⟨rfl, ?_⟩; exact hJ)); simp only [Act.put, List.setIfInBounds_toArray, List.set_cons_zero, List.set_cons_succ])
  (apply rel_val (v := .agg #[i64 t.kind, i64 t.page, i64 t.seq, i64 t.epoch]); (· rfl); (· (intro e' w' hD he hJ; obtain ⟨g0', g1', g2', g3'⟩ := (hk e' w' hJ).four; refine relv_of (u := .agg #[i64 t.kind, i64 t.page, i64 t.seq, i64 t.epoch]) (w := w') (by go_simp) ⟨rfl, ?_⟩; exact hJ)); simp only [Act.put, List.setIfInBounds_toArray, List.set_cons_zero, List.set_cons_succ])
  iterate 2 (apply rel_val; (· rfl); (· (intro e' w' hD he hJ; skip; refine relv_of (by (go_simp; first | rfl | exact ⟨rfl, rfl⟩)) ⟨rfl, ?_⟩; exact hJ)); simp only [Act.put, List.setIfInBounds_toArray, List.set_cons_zero, List.set_cons_succ])
  apply rel_val (v := undef)
  · rfl
  · intro e' w' hD he hJ
    rw [he] at hJ
    have hJ : w' = W := hJ.out
    subst hJ
    obtain ⟨g0', g1', g2', g3'⟩ := f6d.four
    obtain ⟨u0', u1', u2', u3'⟩ := f6d.four'
    go_simp
    exact ⟨rfl, rfl⟩
  simp only [Act.put, List.setIfInBounds_toArray, List.set_cons_zero, List.set_cons_succ]
  apply rel_nil
  intro w5 hJ
  have hJ : w5 = st4 W (w.heap.size + 1) t := hJ.out
  have F := leaf_end (t := t) h HC1.out rfl HT1.out hb3d HF3d.out (by omega)
  rw [← hJ] at F
  have r5 : Row w5 (w.heap.size + 1) 0 [i64 t.kind, i64 t.page, i64 t.seq, i64 t.epoch] := by
    rw [hJ]
    have := (((f6d.setCell 0 (i64 t.kind)).setCell 1 (i64 t.page)).setCell 2 (i64 t.seq)).setCell 3 (i64 t.epoch)
    simpa [st4] using this
  have FH := Lib.hid F
  have s0 := r5.cell0 0 rfl
  have s1 := r5.cell0 1 rfl
  have s2 := r5.cell0 2 rfl
  have s3 := r5.cell0 3 rfl
  clear F hJ hk f11d f6d
  go_wp2_with fail
  exact bodyPost_ret (v := .tuple #[v, .agg #[i64 t.kind, i64 t.page, i64 t.seq, i64 t.epoch], i64 1, i64 0]) (by simp [results, Tryz.results104, go_sem, *]) rfl (by exact ⟨⟨v, rfl, FH.out.1⟩, FH.out.2.1, FH.out.2.2⟩)
end Go.Proofs.YthghhcnpbehaiaaGreat
