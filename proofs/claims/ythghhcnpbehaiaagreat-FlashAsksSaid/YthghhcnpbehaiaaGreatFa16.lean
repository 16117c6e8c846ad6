/- rank: Stale. -/
import Derived.Test.YthghhcnpbehaiaaGreatFa13
import Derived.Test.YthghhcnpbehaiaaGreatFa15

namespace Go.Proofs.YthghhcnpbehaiaaGreat
open Go.RowKit

def zero114 : Value := .agg #[i64 0, i64 0, i64 0, i64 0, i64 0, i64 0]
theorem stopT {p : Prop} (h : Go.RowKit.Hid p) : p := h
theorem zero114_size : zero114.cells.size = 6 := rfl
theorem info114 : (Tryz.prog.info? 114).map (fun i => (i.zero, i.size, i.bytes)) = some (some zero114, 6, 48) := by kernel_rfl
theorem PT.one (x : PT) : ∀ u ∈ x.cells, u.oneCell' = true := by
  intro u hu
  simp only [PT.cells, List.mem_cons, List.not_mem_nil, or_false] at hu
  rcases hu with rfl | rfl | rfl | rfl | rfl | rfl <;> rfl
theorem PT.new6 (w : World) (x : PT) (t : TypeId) : ∀ j u, x.cells[j]? = some u → (w.alloc (.cells x.cells.toArray t)).cell? ((⟨w.heap.size, 0, none⟩ : Addr).add j) = some u := by
  intro j u hj
  have e : (⟨w.heap.size, 0, none⟩ : Addr).add j = ⟨w.heap.size, j, none⟩ := by unfold Addr.add; split <;> simp [*]
  rw [e, World.cell?_alloc_new]; simpa using hj

/-- v is a slice of just the cells of l, in memory of its own from B on; nil: it has none. -/
theorem own_slat {w : World} {base e size n : Nat} {v : Value} {xs : List Value} (h : w.ownsRow base e size v n xs) (hs : 0 < size) : SlAt w v n xs ∧ ∃ A cap, v = .slice A n cap := by
  obtain ⟨hl, ⟨rfl, rfl⟩ | ⟨g', cap', cur, rfl, hb, hh, hc1, hc2, hs', ht⟩⟩ := h
  · have : xs = [] := by simpa using hl
    exact ⟨⟨none, 0, rfl, Nat.le_refl _, .inl this⟩, none, 0, rfl⟩
  · refine ⟨⟨_, cap', rfl, hc1, .inr ⟨g', 0, rfl, fun i v hi => ?_⟩⟩, _, cap', rfl⟩
    rw [Nat.zero_add]
    have hin : i < xs.length := (List.getElem?_eq_some_iff.1 hi).1
    refine ⟨?_, by simp [World.frozen?, hh]⟩
    simp only [World.cell?, hh, Option.isSome_none, Bool.false_eq_true, if_false]
    rw [← ht, List.getElem?_take] at hi
    rw [hl] at hin
    rw [if_pos hin] at hi
    simpa using hi

def staleOf (la : Int) (l : List PT) : List PT := l.filter fun x => decide (la < x.tag.epoch)
theorem stale_snoc {la : Int} {l : List PT} {j : Nat} {x : PT} (h : l[j]? = some x) : staleOf la (l.take (j + 1)) = staleOf la (l.take j) ++ if la < x.tag.epoch then [x] else [] := by
  rw [take_snoc' h, staleOf, List.filter_append, List.filter_cons, List.filter_nil]
  by_cases hk : la < x.tag.epoch <;> simp [hk, staleOf]
theorem stale_len (la : Int) (l : List PT) (j : Nat) : (staleOf la (l.take j)).length ≤ j := by
  have := List.length_filter_le (fun x : PT => decide (la < x.tag.epoch)) (l.take j)
  have h2 : (l.take j).length ≤ j := List.length_take_le _ _
  unfold staleOf; omega

set_option maxHeartbeats 2000000 in
set_option maxRecDepth 100000 in
theorem stale66 (l : List PT) (n : Nat) (hn : l.length = n) (A : Option Addr) (cap : Nat) (w : World) (hv : SlAt w (.slice A n cap) n (l.flatMap PT.cells)) (hl : n ≤ 1000) :
    Calls Tryz.prog 66 #[.slice A n cap] w fun e w' => (∃ v, e = .returned v ∧ w'.ownsRow w.heap.size 114 6 v (staleOf (lastOf l) l).length ((staleOf (lastOf l) l).flatMap PT.cells)) ∧ Below w.heap.size w w' := by
  subst hn
  have hlast := fun wx (hb : Below w.heap.size w wx) => last111 l l.length rfl A cap wx (hv.below hb) hl
  obtain ⟨a0, c0, hv0, -, hr⟩ := hv
  simp only [Value.slice.injEq] at hv0
  obtain ⟨rfl, -, rfl⟩ := hv0
  obtain ⟨i0, hi, hz0, hz1, hz2⟩ := info_parts info114
  generalize lastOf l = la at *
  have HL := Lib.hid hlast
  clear hlast
  go_enter Tryz.func66, Tryz.ntmps66
  go_wp2_with fail
  refine (HL.out _ (Below.refl _ _)).mono ?_
  rintro e w1 ⟨rfl, hb1⟩
  have z1 := hb1.size
  go_wp2_with fail
  go_loopw [4, 11] (fun r i wr => ∃ j : Nat, j ≤ l.length ∧ i = .int .i64 j ∧ Below w.heap.size w wr ∧ wr.ownsRow w.heap.size 114 6 r (staleOf la (l.take j)).length ((staleOf la (l.take j)).flatMap PT.cells)) (fun _ i _ => l.length - (RowKit.intOf i).toNat)
  case atStart => exact ⟨0, Nat.zero_le _, rfl, hb1, World.ownsRow_nil _ _ _ _⟩
  case round =>
    obtain ⟨j, hj, rfl, hbr, hown⟩ := hrel
    have hz := hbr.size
    have j0 : (0 : Int) ≤ (j : Int) := by omega
    have hkw : IntKind.i64.wrap ((j : Int) + 1) = ((j + 1 : Nat) : Int) := by rw [IntWalk.i64_in _ (by omega)]; omega
    have HOWN := Lib.hid hown
    clear hown
    by_cases hlt' : j < l.length
    · obtain ⟨x, hx⟩ : ∃ x, l[j]? = some x := ⟨l[j], List.getElem?_eq_getElem hlt'⟩
      have hsn := stale_snoc (la := la) hx
      have hln := stale_len la l j
      obtain hr | ⟨vb, off, rfl, hr⟩ := hr
      · exfalso
        have := flat_get PT.cells 6 (fun _ => rfl) l j 0 x _ hx rfl
        rw [hr] at this; simp at this
      have hrow := (hr.elem 6 (fun _ => rfl) hx).below hbr
      have c0 : wr.cell? ⟨vb, off + j * 6, none⟩ = some (i64 x.at_.b) := hrow.cell 0 rfl
      have c1 : wr.cell? ⟨vb, off + j * 6 + 1, none⟩ = some (i64 x.at_.p) := hrow.cell 1 rfl
      have c2 : wr.cell? ⟨vb, off + j * 6 + 2, none⟩ = some (i64 x.tag.kind) := hrow.cell 2 rfl
      have c3 : wr.cell? ⟨vb, off + j * 6 + 3, none⟩ = some (i64 x.tag.page) := hrow.cell 3 rfl
      have c4 : wr.cell? ⟨vb, off + j * 6 + 4, none⟩ = some (i64 x.tag.seq) := hrow.cell 4 rfl
      have c5 : wr.cell? ⟨vb, off + j * 6 + 5, none⟩ = some (i64 x.tag.epoch) := hrow.cell 5 rfl
      have hvb := World.block_lt_of_cell? _ _ c0
      generalize staleOf la (l.take j) = s at *
      clear hr hrow hx
      by_cases hk : la < x.tag.epoch
      · simp only [hk, if_true] at hsn
        have HS := Lib.hid hsn
        clear hsn
        have hl6 : x.cells.length = 1 * 6 := rfl
        go_wp2_with (at_builtin; refine stopT ?_)
        unfold Go.RowKit.Hid
        (refine wpList_append_own _ rfl _ _ 110 rfl w.heap.size 114 i0 zero114 6 48 Tryz.underlying110 hi hz0 hz1 hz2 zero114_size (by decide) _ _ _ rfl ((HOWN.out.alloc _).alloc _) ⟨wr.heap.size + 1, 0, none⟩ 1 1 x.cells rfl hl6 ?c3 (PT.one x) (by unfold maxLen; omega) (by omega) (by simp; omega) ?_)
        case c3 =>
          intro j u hj
          have := PT.new6 (wr.alloc (.cells x.cells.toArray 114)) x 114 j u hj
          simpa using this
        intro v2 w2 hown2 hg2 hnil
        clear hnil
        have hb2 : Below w.heap.size w w2 := ((hbr.alloc (by omega) _).alloc (by simp; omega) _).trans (grown_below hg2 (by simp; omega) (fun g hg' => (HOWN.out.lt g hg').1))
        have HO2 := Lib.hid hown2
        clear hown2 hg2
        go_wp2_with fail
        refine ⟨⟨j + 1, by omega, ?_, hb2, ?_⟩, by simp [RowKit.intOf]; omega⟩
        · first | rfl | (congr 1; done) | (congr 1; omega)
        · have := HO2.out
          rw [HS.out, List.flatMap_append, List.length_append]
          simpa using this
      · simp only [hk, if_false] at hsn
        have HS := Lib.hid hsn
        clear hsn
        go_wp2_with fail
        refine ⟨⟨j + 1, by omega, ?_, by (repeat (first | exact Below.refl _ _ | assumption | (with_reducible refine Below.drew ?_) | (with_reducible refine below_drewN' ?_ _) | (with_reducible refine ext_alloc ?_ ?_; · (first | omega | (simp only [World.size_alloc, World.size_setCell, World.size_drew, World.heap_drewN]; omega) | (simp; omega))) | (with_reducible refine ext_setCell ?_ ?_; · (first | omega | (simp only [World.size_alloc, World.size_setCell, World.size_drew, World.heap_drewN]; omega) | (simp; omega))) | (refine ext_call (by assumption) ?_ ?_; · (first | omega | (simp only [World.size_alloc, World.size_setCell, World.size_drew, World.heap_drewN]; omega) | (simp; omega))))), ?_⟩, by simp [RowKit.intOf]; omega⟩
        · first | rfl | (congr 1; done) | (congr 1; omega)
        · rw [HS.out, List.append_nil]
          exact own_below' HOWN.out (by (repeat (first | exact Below.refl _ _ | assumption | (with_reducible refine Below.drew ?_) | (with_reducible refine below_drewN' ?_ _) | (with_reducible refine ext_alloc ?_ ?_; · (first | omega | (simp only [World.size_alloc, World.size_setCell, World.size_drew, World.heap_drewN]; omega) | (simp; omega))) | (with_reducible refine ext_setCell ?_ ?_; · (first | omega | (simp only [World.size_alloc, World.size_setCell, World.size_drew, World.heap_drewN]; omega) | (simp; omega))) | (refine ext_call (by assumption) ?_ ?_; · (first | omega | (simp only [World.size_alloc, World.size_setCell, World.size_drew, World.heap_drewN]; omega) | (simp; omega))))))
    · have e : j = l.length := by omega
      subst e
      have e2 : l.take l.length = l := List.take_length
      have HE := Lib.hid e2
      clear e2
      go_wp2_with fail
      go_ret
      have := HOWN.out
      rw [HE.out] at this
      exact ⟨⟨_, rfl, this⟩, by (repeat (first | exact Below.refl _ _ | assumption | (with_reducible refine Below.drew ?_) | (with_reducible refine below_drewN' ?_ _) | (with_reducible refine ext_alloc ?_ ?_; · (first | omega | (simp only [World.size_alloc, World.size_setCell, World.size_drew, World.heap_drewN]; omega) | (simp; omega))) | (with_reducible refine ext_setCell ?_ ?_; · (first | omega | (simp only [World.size_alloc, World.size_setCell, World.size_drew, World.heap_drewN]; omega) | (simp; omega))) | (refine ext_call (by assumption) ?_ ?_; · (first | omega | (simp only [World.size_alloc, World.size_setCell, World.size_drew, World.heap_drewN]; omega) | (simp; omega)))))⟩
end Go.Proofs.YthghhcnpbehaiaaGreat
