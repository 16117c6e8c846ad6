/- The sort of places with tags by their number. -/
import Derived.Test.YthghhcnpbehaiaaGreatFa02
import Derived.Test.YthghhcnpbehaiaaGreatFa08
import Derived.Test.YthghhcnpbehaiaaGreatFa03
import Derived.Test.YthghhcnpbehaiaaGreatFa09

namespace Go.Proofs.YthghhcnpbehaiaaGreat
open Go.RowKit

instance instPT : Inhabited PT := ⟨⟨⟨0, 0⟩, ⟨0, 0, 0, 0⟩⟩⟩

theorem grown_eq {W w' : World} (h : Grown W w') : ∃ q os', w' = Go.Sort.grow (W.drewN q) os' := by
  obtain ⟨⟨h1, h2, h3, h4, h5⟩, h6⟩ := h
  refine ⟨w'.drawn - W.drawn, w'.heap.extract W.heap.size w'.heap.size, ?_⟩
  obtain ⟨hp, tp, dr, os, ou⟩ := w'
  obtain ⟨hp0, tp0, dr0, os0, ou0⟩ := W
  simp only [Go.Sort.grow, World.drewN] at *
  subst h1 h2 h3
  have e1 : dr0 + (dr - dr0) = dr := by omega
  have e2 : hp0 ++ hp.extract hp0.size hp.size = hp := by
    apply Array.ext_getElem?
    intro i
    by_cases hi : i < hp0.size
    · rw [Array.getElem?_append_left hi, h5 i hi]
    · rw [Array.getElem?_append_right (by omega), Array.getElem?_extract]
      by_cases hi2 : i < hp.size
      · rw [if_pos (by omega)]; congr 1; omega
      · rw [if_neg (by omega)]; simp; omega
  simp [e1, e2]

theorem compare110 (x y : Int) (w : World) : Calls Tryz.prog 110 #[i64 x, i64 y] w fun e w' => e = .returned (i64 (Lib.compareInt x y)) ∧ Grown w w' := by
  have h := AnyG.cmp_Compare_int Tryz.cmpI x y w
  change Calls Tryz.prog 110 _ _ _ at h
  refine h.mono ?_
  rintro e w' ⟨rfl, rfl⟩
  exact ⟨rfl, Grown.refl _⟩

def cmpPT (g : Geo) (x y : PT) : Int := Lib.compareInt (g.numZ x.at_) (g.numZ y.at_)

set_option maxHeartbeats 2000000 in
set_option maxRecDepth 100000 in
theorem clo109 (g : Geo) (hg : g.okB = true) (f q : Nat) (v0 : Value) (x y : PT) (w : World) (hq : w.cell? ⟨q, 0, none⟩ = some (ptr f)) (hf : Row w f 0 [v0, i64 g.B, i64 g.P, i64 g.Y, i64 g.S, i64 g.T]) :
    Calls Tryz.prog 109 #[.agg #[i64 x.at_.b, i64 x.at_.p, i64 x.tag.kind, i64 x.tag.page, i64 x.tag.seq, i64 x.tag.epoch], .agg #[i64 y.at_.b, i64 y.at_.p, i64 y.tag.kind, i64 y.tag.page, i64 y.tag.seq, i64 y.tag.epoch], ptr q] w fun e w' => e = .returned (i64 (cmpPT g x y)) ∧ Grown w w' := by
  have c1 := hf.cell0 1 rfl
  have c2 := hf.cell0 2 rfl
  have c3 := hf.cell0 3 rfl
  have c4 := hf.cell0 4 rfl
  have c5 := hf.cell0 5 rfl
  have lf : f < w.heap.size := World.block_lt_of_cell? _ _ c1
  have lq : q < w.heap.size := World.block_lt_of_cell? _ _ hq
  have hlf : f < w.heap.size + 1 := by omega
  have hlq : q < w.heap.size + 1 := by omega
  have nf : f ≠ w.heap.size := by omega
  have nq : q ≠ w.heap.size := by omega
  have nf1 : f ≠ w.heap.size + 1 := by omega
  have nq1 : q ≠ w.heap.size + 1 := by omega
  unfold cmpPT
  go_enter Tryz.func109, Tryz.ntmps109
  go_wp2_with fail
  refine wp_region_keep 15 (fun wJ => Grown ((w.alloc (.cells x.cells.toArray 114)).alloc (.cells y.cells.toArray 114)) wJ) (by kernel_rfl) (by kernel_rfl) (by (repeat (first | exact Grown.refl _ | assumption | (with_reducible refine Grown.drew ?_) | (with_reducible refine Grown.drewN ?_ _) | (with_reducible refine Grown.alloc ?_ _) | (with_reducible refine Grown.set ?_ ?_; · (first | omega | (simp only [World.size_alloc, World.size_setCell, World.size_drew, World.heap_drewN]; omega) | (simp; omega))) | (refine Grown.call (by assumption) ?_)))) ?_
  simp only [List.take_succ_cons, List.take_zero, List.drop_succ_cons, List.drop_zero]
  iterate 6 (apply keep_yes; (· rfl); (· (intro w' hJ; (try obtain ⟨hc', hf'⟩ := bcell hJ.1); refine gives_of (by (go_simp; rfl)) rfl hJ)); simp only [Act.put, List.setIfInBounds_toArray, List.set_cons_zero, List.set_cons_succ])
  (apply keep_yes; (· rfl); (· (intro w' hJ; refine gives_call (v := i64 (g.numZ x.at_)) (by (go_simp; first | rfl | exact ⟨⟨rfl, rfl⟩, rfl⟩)) ?_; refine (number_gr g x.at_ _ hg).mono ?_; rintro e w'' ⟨rfl, hbx⟩; exact ⟨rfl, Grown.call hbx hJ⟩)); simp only [Act.put, List.setIfInBounds_toArray, List.set_cons_zero, List.set_cons_succ])
  iterate 6 (apply keep_yes; (· rfl); (· (intro w' hJ; (try obtain ⟨hc', hf'⟩ := bcell hJ.1); refine gives_of (by (go_simp; rfl)) rfl hJ)); simp only [Act.put, List.setIfInBounds_toArray, List.set_cons_zero, List.set_cons_succ])
  (apply keep_yes; (· rfl); (· (intro w' hJ; refine gives_call (v := i64 (g.numZ y.at_)) (by (go_simp; first | rfl | exact ⟨⟨rfl, rfl⟩, rfl⟩)) ?_; refine (number_gr g y.at_ _ hg).mono ?_; rintro e w'' ⟨rfl, hbx⟩; exact ⟨rfl, Grown.call hbx hJ⟩)); simp only [Act.put, List.setIfInBounds_toArray, List.set_cons_zero, List.set_cons_succ])
  (apply keep_yes; (· rfl); (· (intro w' hJ; refine gives_call (v := i64 (Lib.compareInt (g.numZ x.at_) (g.numZ y.at_))) (by (go_simp; first | rfl | exact ⟨⟨rfl, rfl⟩, rfl⟩)) ?_; refine (compare110 _ _ _).mono ?_; rintro e w'' ⟨rfl, hbx⟩; exact ⟨rfl, Grown.call hbx hJ⟩)); simp only [Act.put, List.setIfInBounds_toArray, List.set_cons_zero, List.set_cons_succ])
  refine keep_nil ?_
  intro w1 hJ
  go_wp2_with fail
  go_ret
  exact ⟨rfl, Grown.call hJ (by (repeat (first | exact Grown.refl _ | assumption | (with_reducible refine Grown.drew ?_) | (with_reducible refine Grown.drewN ?_ _) | (with_reducible refine Grown.alloc ?_ _) | (with_reducible refine Grown.set ?_ ?_; · (first | omega | (simp only [World.size_alloc, World.size_setCell, World.size_drew, World.heap_drewN]; omega) | (simp; omega))) | (refine Grown.call (by assumption) ?_))))⟩

theorem flatK_get (l : List PT) (t : Nat) (ht : t < l.length * 6) : (l.flatMap PT.cells)[t]? = some ((Go.Sort.flatK PT.cells 6 l.toArray)[t]!) := by
  have h1 : t / 6 < l.length := by omega
  have h2 : t % 6 < 6 := Nat.mod_lt _ (by omega)
  have h3 : t = t / 6 * 6 + t % 6 := by omega
  rw [Go.Sort.get_flatK _ _ _ _ (by simpa using ht)]
  have hx : l[t / 6]? = some l[t / 6] := List.getElem?_eq_getElem h1
  have e1 : l.toArray[t / 6]! = l[t / 6] := by
    rw [getElem!_pos _ _ (by simpa using h1)]; simp
  rw [e1]
  have hc : (PT.cells l[t / 6])[t % 6]? = some ((PT.cells l[t / 6])[t % 6]!) := by
    rw [getElem!_pos _ _ (by simpa using h2)]
    exact List.getElem?_eq_getElem _
  have := flat_get PT.cells 6 (fun _ => rfl) l (t / 6) (t % 6) _ _ hx hc
  rw [← h3] at this
  exact this

theorem holds_of_row {w : World} {b : Nat} {l : List PT} (h : Row w b 0 (l.flatMap PT.cells)) : Go.Sort.HoldsK PT.cells 6 w b 0 l.toArray := by
  intro j hj
  have hj' : j < l.length * 6 := by simpa using hj
  have := h j _ (flatK_get l j hj')
  exact this
theorem flat_len6 (l : List PT) : (l.flatMap PT.cells).length = l.length * 6 := by
  induction l with
  | nil => rfl
  | cons x r ih => rw [List.flatMap_cons, List.length_append, ih, List.length_cons]; simp; omega
theorem row_of_holds {w : World} {b : Nat} {l : List PT} (h : Go.Sort.HoldsK PT.cells 6 w b 0 l.toArray) : Row w b 0 (l.flatMap PT.cells) := by
  intro j v hj
  have hj' : j < l.length * 6 := by rw [← flat_len6]; exact (List.getElem?_eq_some_iff.1 hj).1
  rw [flatK_get l j hj'] at hj
  have := h j (by simpa using hj')
  injection hj with hj
  rw [hj] at this; exact this

theorem mapBlock_other (w : World) (b k : Nat) (f : Array Value → Array Value) (h : k ≠ b) : (Go.Sort.mapBlock w b f).heap[k]? = w.heap[k]? := by
  simp [Go.Sort.mapBlock, Array.getElem?_modify, Ne.symm h]
theorem sortWorld_turns (w : World) (b m : Nat) (d : Array PT) (os : Array Obj) : Turns (· = b) w (Go.Proofs.sortWorldK PT.cells 6 w b 0 m d os) := by
  refine ⟨rfl, rfl, rfl, Go.Proofs.size_sortWorldK_c _ _ _ _ _ _ _ _, fun k hk hm => ?_⟩
  unfold Go.Proofs.sortWorldK Go.Sort.putRowK Go.Sort.putRow
  rw [Go.Sort.heap_grow_old _ _ (by simpa [Go.Sort.mapBlock, Go.Sort.ahead] using hk), mapBlock_other _ _ _ _ hm]
  rfl

theorem swoPT (g : Geo) : Go.Sort.SWO (Go.Proofs.ltOf (cmpPT g)) := by
  have e : ∀ x y, Go.Proofs.ltOf (cmpPT g) x y = decide (g.numZ x.at_ < g.numZ y.at_) := fun x y => by
    unfold Go.Proofs.ltOf cmpPT Lib.compareInt
    by_cases h1 : g.numZ x.at_ < g.numZ y.at_
    · simp [h1]
    · by_cases h2 : g.numZ y.at_ < g.numZ x.at_ <;> simp [h1, h2]
  refine ⟨fun x => ?_, fun x y z h1 h2 => ?_, fun x y z h1 h2 => ?_⟩
  · rw [e]; simp
  · rw [e] at *; simp at *; omega
  · rw [e] at *; simp at *; omega

theorem sort108 (g : Geo) (hg : g.okB = true) (f q b cap : Nat) (v0 : Value) (l : List PT) (w : World) (hq : w.cell? ⟨q, 0, none⟩ = some (ptr f)) (hf : Row w f 0 [v0, i64 g.B, i64 g.P, i64 g.Y, i64 g.S, i64 g.T])
    (hr : Row w b 0 (l.flatMap PT.cells)) (hb : b < w.heap.size) (h1 : b ≠ q) (h2 : b ≠ f) (hl : l.length ≤ 1000) :
    Calls Tryz.prog 108 #[.slice (some ⟨b, 0, none⟩) l.length cap, .func (.func 109) #[] #[ptr q]] w fun e w' => e = .returned (.tuple #[]) ∧ ∃ l' : List PT, l'.Perm l ∧ l'.Pairwise (fun x y => g.numZ x.at_ ≤ g.numZ y.at_) ∧ Row w' b 0 (l'.flatMap PT.cells) ∧ Turns (· = b) w w' := by
  have eg : ∀ args w, (callFunc 109 args).run Tryz.prog w = .ok (.enter 109 args) w := enters_of Tryz.func109 (by kernel_rfl) rfl
  have lq : q < w.heap.size := World.block_lt_of_cell? _ _ hq
  have lf : f < w.heap.size := hf.lt (by simp)
  have hcmp : Go.Proofs.CmpLays Tryz.prog 109 #[ptr q] PT.cells 6 (cmpPT g) b 0 l.toArray.size w := by
    intro m os dk hdk x y
    have ht := sortWorld_turns w b m dk os
    have hc := clo109 g hg f q v0 x y (Go.Proofs.sortWorldK PT.cells 6 w b 0 m dk os) ((ht.cell (p := ⟨q, 0, none⟩) lq (Ne.symm h1)).trans hq) (hf.turns ht (Ne.symm h2))
    refine hc.mono ?_
    rintro e w' ⟨rfl, hgr⟩
    exact ⟨rfl, grown_eq hgr⟩
  have hcon := AnyQ.slices_SortFunc Tryz.sortF 6 Tryz.isAgg114 Tryz.sizeOf114 PT.cells (fun _ => rfl) (fun x u hu => by
    simp only [PT.cells, List.mem_cons, List.not_mem_nil, or_false] at hu
    rcases hu with rfl | rfl | rfl | rfl | rfl | rfl <;> rfl) (cmpPT g) (swoPT g) 109 #[ptr q] b 0 cap l.toArray w eg hcmp (holds_of_row hr) hb (by simp; omega)
  change Calls Tryz.prog 108 _ _ _ at hcon
  refine hcon.mono ?_
  rintro e w' ⟨rfl, d', n, os, hp, hs, rfl⟩
  refine ⟨rfl, d'.toList, ?_, ?_, row_of_holds ?_, sortWorld_turns _ _ _ _ _⟩
  · have h3 := hp.2.2
    rw [← hp.1] at h3
    have hsz : d'.size = l.length := by rw [hp.1]; simp
    have h4 : (List.take l.length d'.toList).Perm l := by simpa [hsz] using h3
    rwa [List.take_of_length_le (by simp [hsz])] at h4
  · rw [List.pairwise_iff_getElem]
    intro i j hi hj hij
    have h3 := hs i j (Nat.zero_le _) hij (by rw [← hp.1]; simpa using hj)
    have e : ∀ x y, Go.Proofs.ltOf (cmpPT g) x y = decide (g.numZ x.at_ < g.numZ y.at_) := fun x y => by
      unfold Go.Proofs.ltOf cmpPT Lib.compareInt
      by_cases h1 : g.numZ x.at_ < g.numZ y.at_
      · simp [h1]
      · by_cases h2 : g.numZ y.at_ < g.numZ x.at_ <;> simp [h1, h2]
    rw [e, getElem!_pos _ _ (by simpa using hj), getElem!_pos _ _ (by simpa using hi)] at h3
    simp at h3
    simpa using h3
  · exact Go.Proofs.holdsK_sortWorldK_c _ _ _ _ _ _ _ _ _ (holds_of_row hr) hb hp.1
end Go.Proofs.YthghhcnpbehaiaaGreat
