/- rank: Newer, Last. -/
import Derived.Test.YthghhcnpbehaiaaGreatFa06
import Derived.Test.YthghhcnpbehaiaaGreatFa07

namespace Go.Proofs.YthghhcnpbehaiaaGreat
open Go.RowKit

/-- A place and its tag. -/
structure PT where
  (at_ : Plc) (tag : Tag)
  deriving DecidableEq
abbrev PT.cells (x : PT) : List Value := [i64 x.at_.b, i64 x.at_.p, i64 x.tag.kind, i64 x.tag.page, i64 x.tag.seq, i64 x.tag.epoch]
abbrev PT.v (x : PT) : Value := .agg #[i64 x.at_.b, i64 x.at_.p, i64 x.tag.kind, i64 x.tag.page, i64 x.tag.seq, i64 x.tag.epoch]

def newerB (a b : Tag) : Bool := decide (b.epoch < a.epoch) || (a.epoch == b.epoch && decide (b.seq < a.seq))

set_option maxHeartbeats 2000000 in
set_option maxRecDepth 100000 in
theorem newer145 (a b : Tag) (w : World) : Calls Tryz.prog 145 #[.agg #[i64 a.kind, i64 a.page, i64 a.seq, i64 a.epoch], .agg #[i64 b.kind, i64 b.page, i64 b.seq, i64 b.epoch]] w fun e w' => e = .returned (.bool (newerB a b)) ∧ Below w.heap.size w w' := by
  by_cases h1 : b.epoch < a.epoch
  · have e0 : newerB a b = true := by simp [newerB, h1]
    rw [e0]; clear e0
    go_enter Tryz.func145, Tryz.ntmps145
    go_wp2
    go_ret
    exact ⟨rfl, by (repeat (first | exact Below.refl _ _ | assumption | (with_reducible refine Below.drew ?_) | (with_reducible refine below_drewN' ?_ _) | (with_reducible refine ext_alloc ?_ ?_; · (first | omega | (simp only [World.size_alloc, World.size_setCell, World.size_drew, World.heap_drewN]; omega) | (simp; omega))) | (with_reducible refine ext_setCell ?_ ?_; · (first | omega | (simp only [World.size_alloc, World.size_setCell, World.size_drew, World.heap_drewN]; omega) | (simp; omega))) | (refine ext_call (by assumption) ?_ ?_; · (first | omega | (simp only [World.size_alloc, World.size_setCell, World.size_drew, World.heap_drewN]; omega) | (simp; omega)))))⟩
  · by_cases h2 : a.epoch = b.epoch
    · by_cases h3 : b.seq < a.seq
      · have e0 : newerB a b = true := by simp [newerB, h2, h3]
        have h2' : (a.epoch == b.epoch) = true := by simpa using h2
        rw [e0]; clear e0 h2
        go_enter Tryz.func145, Tryz.ntmps145
        go_wp2
        go_ret
        exact ⟨rfl, by (repeat (first | exact Below.refl _ _ | assumption | (with_reducible refine Below.drew ?_) | (with_reducible refine below_drewN' ?_ _) | (with_reducible refine ext_alloc ?_ ?_; · (first | omega | (simp only [World.size_alloc, World.size_setCell, World.size_drew, World.heap_drewN]; omega) | (simp; omega))) | (with_reducible refine ext_setCell ?_ ?_; · (first | omega | (simp only [World.size_alloc, World.size_setCell, World.size_drew, World.heap_drewN]; omega) | (simp; omega))) | (refine ext_call (by assumption) ?_ ?_; · (first | omega | (simp only [World.size_alloc, World.size_setCell, World.size_drew, World.heap_drewN]; omega) | (simp; omega)))))⟩
      · have e0 : newerB a b = false := by simp [newerB, h1, h3]
        have h2' : (a.epoch == b.epoch) = true := by simpa using h2
        rw [e0]; clear e0 h2
        go_enter Tryz.func145, Tryz.ntmps145
        go_wp2
        go_ret
        exact ⟨rfl, by (repeat (first | exact Below.refl _ _ | assumption | (with_reducible refine Below.drew ?_) | (with_reducible refine below_drewN' ?_ _) | (with_reducible refine ext_alloc ?_ ?_; · (first | omega | (simp only [World.size_alloc, World.size_setCell, World.size_drew, World.heap_drewN]; omega) | (simp; omega))) | (with_reducible refine ext_setCell ?_ ?_; · (first | omega | (simp only [World.size_alloc, World.size_setCell, World.size_drew, World.heap_drewN]; omega) | (simp; omega))) | (refine ext_call (by assumption) ?_ ?_; · (first | omega | (simp only [World.size_alloc, World.size_setCell, World.size_drew, World.heap_drewN]; omega) | (simp; omega)))))⟩
    · have e0 : newerB a b = false := by simp [newerB, h1, h2]
      have h2' : (a.epoch == b.epoch) = false := by simpa using h2
      rw [e0]; clear e0 h2
      go_enter Tryz.func145, Tryz.ntmps145
      go_wp2
      go_ret
      exact ⟨rfl, by (repeat (first | exact Below.refl _ _ | assumption | (with_reducible refine Below.drew ?_) | (with_reducible refine below_drewN' ?_ _) | (with_reducible refine ext_alloc ?_ ?_; · (first | omega | (simp only [World.size_alloc, World.size_setCell, World.size_drew, World.heap_drewN]; omega) | (simp; omega))) | (with_reducible refine ext_setCell ?_ ?_; · (first | omega | (simp only [World.size_alloc, World.size_setCell, World.size_drew, World.heap_drewN]; omega) | (simp; omega))) | (refine ext_call (by assumption) ?_ ?_; · (first | omega | (simp only [World.size_alloc, World.size_setCell, World.size_drew, World.heap_drewN]; omega) | (simp; omega)))))⟩

/-- The greatest epoch of a commit. -/
def lastStep (n : Int) (x : PT) : Int := if x.tag.kind = 3 then max n x.tag.epoch else n
def lastOf (l : List PT) : Int := l.foldl lastStep 0
theorem take_snoc' {α : Type} {l : List α} {j : Nat} {x : α} (h : l[j]? = some x) : l.take (j + 1) = l.take j ++ [x] := by
  have hl : j < l.length := (List.getElem?_eq_some_iff.1 h).1
  rw [List.take_succ_eq_append_getElem hl, (List.getElem?_eq_some_iff.1 h).2]
theorem lastOf_snoc {l : List PT} {j : Nat} {x : PT} (h : l[j]? = some x) : lastOf (l.take (j + 1)) = lastStep (lastOf (l.take j)) x := by
  rw [take_snoc' h, lastOf, List.foldl_append]; rfl

set_option maxHeartbeats 2000000 in
set_option maxRecDepth 100000 in
theorem last111 (l : List PT) (n : Nat) (hn : l.length = n) (A : Option Addr) (cap : Nat) (w : World) (hv : SlAt w (.slice A n cap) n (l.flatMap PT.cells)) (hl : n ≤ 1000) :
    Calls Tryz.prog 111 #[.slice A n cap] w fun e w' => e = .returned (i64 (lastOf l)) ∧ Below w.heap.size w w' := by
  subst hn
  obtain ⟨a0, c0, hv0, -, hr⟩ := hv
  simp only [Value.slice.injEq] at hv0
  obtain ⟨rfl, -, rfl⟩ := hv0
  go_enter Tryz.func111, Tryz.ntmps111
  go_wp2
  go_loopw [3, 8] (fun r i wr => ∃ j : Nat, j ≤ l.length ∧ r = .int .i64 (lastOf (l.take j)) ∧ i = .int .i64 j ∧ Below w.heap.size w wr) (fun _ i _ => l.length - (RowKit.intOf i).toNat)
  case atStart => exact ⟨0, Nat.zero_le _, rfl, rfl, Below.refl _ _⟩
  case round =>
    obtain ⟨j, hj, rfl, rfl, hbr⟩ := hrel
    have hz := hbr.size
    have j0 : (0 : Int) ≤ (j : Int) := by omega
    have hkw : IntKind.i64.wrap ((j : Int) + 1) = ((j + 1 : Nat) : Int) := by rw [IntWalk.i64_in _ (by omega)]; omega
    by_cases hlt' : j < l.length
    · obtain ⟨x, hx⟩ : ∃ x, l[j]? = some x := ⟨l[j], List.getElem?_eq_getElem hlt'⟩
      have hsn := lastOf_snoc hx
      obtain hr | ⟨vb, off, rfl, hr⟩ := hr
      · exfalso
        have := flat_get PT.cells 6 (fun _ => rfl) l j 0 x _ hx rfl
        rw [hr] at this; simp at this
      have hrow := (hr.elem 6 (fun _ => rfl) hx).below hbr
      have c0 : wr.cell? ⟨vb, off + j * 6, none⟩ = some (i64 x.at_.b) := hrow.cell 0 rfl
      have c1 : wr.cell? ⟨vb, off + j * 6 + 1, none⟩ = some (i64 x.at_.p) := hrow.cell 1 rfl
      have c2 : wr.cell? ⟨vb, off + j * 6 + 2, none⟩ = some (i64 x.tag.kind) := hrow.cell 2 rfl
      have c3 : wr.cell? ⟨vb, off + j * 6 + 3, none⟩ = some (i64 x.tag.page) := hrow.cell 3 rfl
      have c4 : wr.cell? ⟨vb, off + j * 6 + 4, none⟩ = some (i64 x.tag.seq) := hrow.cell 4 rfl
      have c5 : wr.cell? ⟨vb, off + j * 6 + 5, none⟩ = some (i64 x.tag.epoch) := hrow.cell 5 rfl
      have hvb := World.block_lt_of_cell? _ _ c0
      generalize lastOf (l.take j) = r at *
      clear hr hrow hx
      by_cases hk : x.tag.kind = 3
      · have hk' : (x.tag.kind == 3) = true := by simpa using hk
        simp only [lastStep, hk, if_true] at hsn
        have HS := Lib.hid hsn
        clear hsn hk
        by_cases hm : r ≤ x.tag.epoch
        all_goals
          go_wp2
          refine ⟨⟨j + 1, by omega, ?_, ?_, by (repeat (first | exact Below.refl _ _ | assumption | (with_reducible refine Below.drew ?_) | (with_reducible refine below_drewN' ?_ _) | (with_reducible refine ext_alloc ?_ ?_; · (first | omega | (simp only [World.size_alloc, World.size_setCell, World.size_drew, World.heap_drewN]; omega) | (simp; omega))) | (with_reducible refine ext_setCell ?_ ?_; · (first | omega | (simp only [World.size_alloc, World.size_setCell, World.size_drew, World.heap_drewN]; omega) | (simp; omega))) | (refine ext_call (by assumption) ?_ ?_; · (first | omega | (simp only [World.size_alloc, World.size_setCell, World.size_drew, World.heap_drewN]; omega) | (simp; omega)))))⟩, by simp [RowKit.intOf]; omega⟩
          · rw [HS.out]; first | rfl | (congr 1; omega)
          · first | rfl | (congr 1; omega)
      · have hk' : (x.tag.kind == 3) = false := by simpa using hk
        simp only [lastStep, hk, if_false] at hsn
        have HS := Lib.hid hsn
        clear hsn hk
        go_wp2
        refine ⟨⟨j + 1, by omega, ?_, ?_, by (repeat (first | exact Below.refl _ _ | assumption | (with_reducible refine Below.drew ?_) | (with_reducible refine below_drewN' ?_ _) | (with_reducible refine ext_alloc ?_ ?_; · (first | omega | (simp only [World.size_alloc, World.size_setCell, World.size_drew, World.heap_drewN]; omega) | (simp; omega))) | (with_reducible refine ext_setCell ?_ ?_; · (first | omega | (simp only [World.size_alloc, World.size_setCell, World.size_drew, World.heap_drewN]; omega) | (simp; omega))) | (refine ext_call (by assumption) ?_ ?_; · (first | omega | (simp only [World.size_alloc, World.size_setCell, World.size_drew, World.heap_drewN]; omega) | (simp; omega)))))⟩, by simp [RowKit.intOf]; omega⟩
        · rw [HS.out]
        · first | rfl | (congr 1; omega)
    · have e : j = l.length := by omega
      subst e
      have e2 : l.take l.length = l := List.take_length
      have HE := Lib.hid e2
      clear e2
      go_wp2
      go_ret
      exact ⟨by rw [HE.out]; rfl, by (repeat (first | exact Below.refl _ _ | assumption | (with_reducible refine Below.drew ?_) | (with_reducible refine below_drewN' ?_ _) | (with_reducible refine ext_alloc ?_ ?_; · (first | omega | (simp only [World.size_alloc, World.size_setCell, World.size_drew, World.heap_drewN]; omega) | (simp; omega))) | (with_reducible refine ext_setCell ?_ ?_; · (first | omega | (simp only [World.size_alloc, World.size_setCell, World.size_drew, World.heap_drewN]; omega) | (simp; omega))) | (refine ext_call (by assumption) ?_ ?_; · (first | omega | (simp only [World.size_alloc, World.size_setCell, World.size_drew, World.heap_drewN]; omega) | (simp; omega)))))⟩
end Go.Proofs.YthghhcnpbehaiaaGreat
