/- What plan's functions answer. -/
import Derived.Test.YthghhcnpbehaiaaGreatFa01

namespace Go.Proofs.YthghhcnpbehaiaaGreat
open Go.RowKit

theorem flat_get {α : Type} (f : α → List Value) (k : Nat) (hk : ∀ x, (f x).length = k) : ∀ (l : List α) (i j : Nat) (x : α) (v : Value), l[i]? = some x → (f x)[j]? = some v → (l.flatMap f)[i * k + j]? = some v
  | [], i, j, x, v, h, _ => by simp at h
  | y :: r, 0, j, x, v, h, hj => by
    simp at h; subst h
    have : j < (f y).length := (List.getElem?_eq_some_iff.1 hj).1
    rw [List.flatMap_cons, List.getElem?_append_left (by omega)]
    simpa using hj
  | y :: r, i + 1, j, x, v, h, hj => by
    have ih := flat_get f k hk r i j x v (by simpa using h) hj
    rw [List.flatMap_cons, List.getElem?_append_right (by rw [hk, Nat.add_mul]; omega), hk]
    rw [show (i + 1) * k + j - k = i * k + j by rw [Nat.add_mul]; omega]
    exact ih

theorem Row.elem {α : Type} {f : α → List Value} {w : World} {b off : Nat} {l : List α} (h : Row w b off (l.flatMap f)) (k : Nat) (hk : ∀ x, (f x).length = k) {i : Nat} {x : α} (hx : l[i]? = some x) : Row w b (off + i * k) (f x) :=
  Row.sub h fun j v hj => flat_get f k hk l i j x v hx hj

/-- A fault. -/
structure Flt where
  (block : Int) (factory : Bool) (after : Int)
abbrev Flt.cells (f : Flt) : List Value := [i64 f.block, .bool f.factory, i64 f.after]

def findAt (p : Flt → Bool) : List Flt → Nat → Int
  | [], _ => -1
  | f :: r, i => if p f then i else findAt p r (i + 1)

theorem findAt_some (p : Flt → Bool) : ∀ (l : List Flt) (i : Nat) (f : Flt), l.find? p = some f → ∃ k : Nat, findAt p l i = (i + k : Nat) ∧ l[k]? = some f
  | [], i, f, h => by simp at h
  | g :: r, i, f, h => by
    by_cases hp : p g = true
    · rw [List.find?_cons_of_pos hp] at h; cases h; exact ⟨0, by simp [findAt, hp], rfl⟩
    · rw [List.find?_cons_of_neg hp] at h
      obtain ⟨k, h1, h2⟩ := findAt_some p r (i + 1) f h
      exact ⟨k + 1, by simp only [findAt, hp, if_false, Bool.false_eq_true]; rw [h1]; congr 1; omega, by simpa using h2⟩
theorem findAt_none (p : Flt → Bool) : ∀ (l : List Flt) (i : Nat), l.find? p = none → findAt p l i = -1
  | [], i, h => rfl
  | g :: r, i, h => by
    have hp : ¬ p g = true := by intro hp; rw [List.find?_cons_of_pos hp] at h; cases h
    rw [List.find?_cons_of_neg hp] at h
    simp only [findAt, hp, if_false, Bool.false_eq_true]
    exact findAt_none p r (i + 1) h

theorem clo140 (f : Flt) (k : Nat) (b : Int) (w : World) (hk : w.cell? ⟨k, 0, none⟩ = some (i64 b)) :
    Calls Tryz.prog 140 #[.agg #[i64 f.block, .bool f.factory, i64 f.after], ptr k] w fun e w' => e = .returned (.bool (f.block == b)) ∧ Below w.heap.size w w' := by
  have hlt := World.block_lt_of_cell? _ _ hk
  go_enter Tryz.func140, Tryz.ntmps140
  go_wp2
  go_ret
  exact ⟨rfl, by (repeat (first | exact Below.refl _ _ | assumption | (with_reducible refine Below.drew ?_) | (with_reducible refine below_drewN' ?_ _) | (with_reducible refine ext_alloc ?_ ?_; · (first | omega | (simp only [World.size_alloc, World.size_setCell, World.size_drew, World.heap_drewN]; omega) | (simp; omega))) | (with_reducible refine ext_setCell ?_ ?_; · (first | omega | (simp only [World.size_alloc, World.size_setCell, World.size_drew, World.heap_drewN]; omega) | (simp; omega))) | (refine ext_call (by assumption) ?_ ?_; · (first | omega | (simp only [World.size_alloc, World.size_setCell, World.size_drew, World.heap_drewN]; omega) | (simp; omega)))))⟩

set_option maxHeartbeats 1000000 in
theorem idx139 (fs : List Flt) (A : Option Addr) (cap : Nat) (k : Nat) (b : Int) (w : World) (hv : SlAt w (.slice A fs.length cap) fs.length (fs.flatMap Flt.cells)) (hk : w.cell? ⟨k, 0, none⟩ = some (i64 b)) (hl : fs.length ≤ 20) :
    Calls Tryz.prog 139 #[.slice A fs.length cap, .func (.func 140) #[] #[ptr k]] w fun e w' => e = .returned (i64 (findAt (fun f => f.block == b) fs 0)) ∧ Below w.heap.size w w' := by
  have hlt := World.block_lt_of_cell? _ _ hk
  obtain ⟨a0, c0, hv0, -, hr⟩ := hv
  simp only [Value.slice.injEq] at hv0
  obtain ⟨rfl, -, rfl⟩ := hv0
  obtain ⟨P, hP⟩ : ∃ P : Nat → Int, P = fun j => findAt (fun f => f.block == b) (fs.drop j) j := ⟨_, rfl⟩
  have h0 : findAt (fun f => f.block == b) fs 0 = P 0 := by rw [hP]; rfl
  rw [h0]
  have hstep : ∀ (j : Nat) (f : Flt), fs[j]? = some f → P j = if (f.block == b) = true then (j : Int) else P (j + 1) := by
    intro j f hf
    have e : fs.drop j = f :: fs.drop (j + 1) := by
      rw [← List.getElem_cons_drop (by exact (List.getElem?_eq_some_iff.1 hf).1), (List.getElem?_eq_some_iff.1 hf).2]
    rw [hP]; simp only; rw [e]; rfl
  have hend : P fs.length = -1 := by rw [hP]; simp [findAt]
  clear h0 hP
  have HS := Lib.hid hstep; clear hstep
  have HE := Lib.hid hend; clear hend
  go_enter Tryz.func139, Tryz.ntmps139
  go_wp2
  go_loopw [8] (fun i wr => ∃ j : Nat, j ≤ fs.length ∧ i = .int .i64 j ∧ Hid (P 0 = P j) ∧ Below w.heap.size w wr) (fun i _ => fs.length - (RowKit.intOf i).toNat)
  case atStart => exact ⟨0, Nat.zero_le _, rfl, rfl, Below.refl _ _⟩
  case round =>
    obtain ⟨j, hj, rfl, he, hbr⟩ := hrel
    have hz := hbr.size
    obtain ⟨hcc, hff⟩ := bcell hbr
    by_cases hlt' : j < fs.length
    · obtain ⟨f, hf⟩ : ∃ f, fs[j]? = some f := ⟨fs[j], List.getElem?_eq_getElem hlt'⟩
      obtain hr | ⟨vb, off, rfl, hr⟩ := hr
      · exfalso
        have := flat_get Flt.cells 3 (fun _ => rfl) fs j 0 f _ hf rfl
        rw [hr] at this; simp at this
      have hrow := (hr.elem 3 (fun _ => rfl) hf).below hbr
      have c0 : wr.cell? ⟨vb, off + j * 3, none⟩ = some (i64 f.block) := hrow.cell 0 rfl
      have c1 : wr.cell? ⟨vb, off + j * 3 + 1, none⟩ = some (.bool f.factory) := hrow.cell 1 rfl
      have c2 : wr.cell? ⟨vb, off + j * 3 + 2, none⟩ = some (i64 f.after) := hrow.cell 2 rfl
      have HF := Lib.hid hf; clear hf
      clear hcc hff
      cases hfb : (f.block == b)
      · go_wp2_with (go_at_call 140; refine (clo140 f k b _ (keepc hbr hk)).mono ?_; rintro e w' ⟨rfl, hb⟩)
        refine ⟨⟨j + 1, by omega, by go_num, ?_, by (repeat (first | exact Below.refl _ _ | assumption | (with_reducible refine Below.drew ?_) | (with_reducible refine below_drewN' ?_ _) | (with_reducible refine ext_alloc ?_ ?_; · (first | omega | (simp only [World.size_alloc, World.size_setCell, World.size_drew, World.heap_drewN]; omega) | (simp; omega))) | (with_reducible refine ext_setCell ?_ ?_; · (first | omega | (simp only [World.size_alloc, World.size_setCell, World.size_drew, World.heap_drewN]; omega) | (simp; omega))) | (refine ext_call (by assumption) ?_ ?_; · (first | omega | (simp only [World.size_alloc, World.size_setCell, World.size_drew, World.heap_drewN]; omega) | (simp; omega)))))⟩, by simp [RowKit.intOf]; omega⟩
        show P 0 = P (j + 1)
        rw [he.out, HS.out j f HF.out, hfb]; rfl
      · go_wp2_with (go_at_call 140; refine (clo140 f k b _ (keepc hbr hk)).mono ?_; rintro e w' ⟨rfl, hb⟩)
        go_ret
        exact ⟨ret_i64 (by rw [he.out, HS.out j f HF.out, hfb]; rfl), by (repeat (first | exact Below.refl _ _ | assumption | (with_reducible refine Below.drew ?_) | (with_reducible refine below_drewN' ?_ _) | (with_reducible refine ext_alloc ?_ ?_; · (first | omega | (simp only [World.size_alloc, World.size_setCell, World.size_drew, World.heap_drewN]; omega) | (simp; omega))) | (with_reducible refine ext_setCell ?_ ?_; · (first | omega | (simp only [World.size_alloc, World.size_setCell, World.size_drew, World.heap_drewN]; omega) | (simp; omega))) | (refine ext_call (by assumption) ?_ ?_; · (first | omega | (simp only [World.size_alloc, World.size_setCell, World.size_drew, World.heap_drewN]; omega) | (simp; omega)))))⟩
    · have e : j = fs.length := by omega
      subst e
      go_wp2
      go_ret
      exact ⟨ret_i64 (by rw [he.out, HE.out]), by (repeat (first | exact Below.refl _ _ | assumption | (with_reducible refine Below.drew ?_) | (with_reducible refine below_drewN' ?_ _) | (with_reducible refine ext_alloc ?_ ?_; · (first | omega | (simp only [World.size_alloc, World.size_setCell, World.size_drew, World.heap_drewN]; omega) | (simp; omega))) | (with_reducible refine ext_setCell ?_ ?_; · (first | omega | (simp only [World.size_alloc, World.size_setCell, World.size_drew, World.heap_drewN]; omega) | (simp; omega))) | (refine ext_call (by assumption) ?_ ?_; · (first | omega | (simp only [World.size_alloc, World.size_setCell, World.size_drew, World.heap_drewN]; omega) | (simp; omega)))))⟩

/-- The fault of a block. -/
def faultOf (fs : List Flt) (b : Int) : Option Flt := fs.find? fun f => f.block == b
def fltOut : Option Flt → Value
  | some f => .tuple #[.agg #[i64 f.block, .bool f.factory, i64 f.after], .bool true]
  | none => .tuple #[.agg #[i64 0, .bool false, i64 0], .bool false]

set_option maxHeartbeats 1000000 in
theorem find99 (fs : List Flt) (A : Option Addr) (cap : Nat) (b : Int) (w : World) (hv : SlAt w (.slice A fs.length cap) fs.length (fs.flatMap Flt.cells)) (hl : fs.length ≤ 20) :
    Calls Tryz.prog 99 #[.slice A fs.length cap, i64 b] w fun e w' => e = .returned (fltOut (faultOf fs b)) ∧ Below w.heap.size w w' := by
  have hv0 := hv
  obtain ⟨a0, c0, hv1, -, hr⟩ := hv
  simp only [Value.slice.injEq] at hv1
  obtain ⟨rfl, -, rfl⟩ := hv1
  cases hf : faultOf fs b with
  | none =>
    have hi := findAt_none _ fs 0 hf
    have H := Lib.hid hi; clear hi hf
    go_enter Tryz.func99, Tryz.ntmps99
    go_wp2_with (go_at_call 139; refine (idx139 fs A cap _ b _ (SlAt.below hv0 (by (repeat (first | exact Below.refl _ _ | assumption | (with_reducible refine Below.drew ?_) | (with_reducible refine below_drewN' ?_ _) | (with_reducible refine ext_alloc ?_ ?_; · (first | omega | (simp only [World.size_alloc, World.size_setCell, World.size_drew, World.heap_drewN]; omega) | (simp; omega))) | (with_reducible refine ext_setCell ?_ ?_; · (first | omega | (simp only [World.size_alloc, World.size_setCell, World.size_drew, World.heap_drewN]; omega) | (simp; omega))) | (refine ext_call (by assumption) ?_ ?_; · (first | omega | (simp only [World.size_alloc, World.size_setCell, World.size_drew, World.heap_drewN]; omega) | (simp; omega))))))) (by simp) hl).mono ?_; rw [H.out]; rintro e w' ⟨rfl, hb⟩; have hz := hb.size; (try simp only [World.size_alloc, World.size_setCell, World.size_drew, World.heap_drewN] at hz); (try have hz0 : w.heap.size < w'.heap.size := by omega); (try have hz1 : w.heap.size + 1 < w'.heap.size := by omega); (try have hz2 : w.heap.size + 2 < w'.heap.size := by omega); (try have hz3 : w.heap.size + 3 < w'.heap.size := by omega); obtain ⟨hc, hf⟩ := bcell hb)
    exact bodyPost_ret (v := .tuple #[.agg #[i64 0, .bool false, i64 0], .bool false]) (by simp [results, Tryz.results99, go_sem, *]) rfl ⟨rfl, by (repeat (first | exact Below.refl _ _ | assumption | (with_reducible refine Below.drew ?_) | (with_reducible refine below_drewN' ?_ _) | (with_reducible refine ext_alloc ?_ ?_; · (first | omega | (simp only [World.size_alloc, World.size_setCell, World.size_drew, World.heap_drewN]; omega) | (simp; omega))) | (with_reducible refine ext_setCell ?_ ?_; · (first | omega | (simp only [World.size_alloc, World.size_setCell, World.size_drew, World.heap_drewN]; omega) | (simp; omega))) | (refine ext_call (by assumption) ?_ ?_; · (first | omega | (simp only [World.size_alloc, World.size_setCell, World.size_drew, World.heap_drewN]; omega) | (simp; omega)))))⟩
  | some f =>
    obtain ⟨k, hi, hk⟩ := findAt_some _ fs 0 f hf
    rw [Nat.zero_add] at hi
    have hkl : k < fs.length := (List.getElem?_eq_some_iff.1 hk).1
    obtain hr | ⟨vb, off, rfl, hr⟩ := hr
    · exfalso
      have := flat_get Flt.cells 3 (fun _ => rfl) fs k 0 f _ hk rfl
      rw [hr] at this; simp at this
    have hrow := hr.elem 3 (fun _ => rfl) hk
    have c0 : w.cell? ⟨vb, off + k * 3, none⟩ = some (i64 f.block) := hrow.cell 0 rfl
    have c1 : w.cell? ⟨vb, off + k * 3 + 1, none⟩ = some (.bool f.factory) := hrow.cell 1 rfl
    have c2 : w.cell? ⟨vb, off + k * 3 + 2, none⟩ = some (i64 f.after) := hrow.cell 2 rfl
    have hvb := World.block_lt_of_cell? _ _ c0
    have hvb' : vb < w.heap.size + 1 + 1 := by have := hvb; simp at this; omega
    have hne : vb ≠ w.heap.size := by have := hvb; simp at this; omega
    have H := Lib.hid hi; clear hi hf hk
    go_enter Tryz.func99, Tryz.ntmps99
    go_wp2_with (go_at_call 139; refine (idx139 fs _ cap _ b _ (SlAt.below hv0 (by (repeat (first | exact Below.refl _ _ | assumption | (with_reducible refine Below.drew ?_) | (with_reducible refine below_drewN' ?_ _) | (with_reducible refine ext_alloc ?_ ?_; · (first | omega | (simp only [World.size_alloc, World.size_setCell, World.size_drew, World.heap_drewN]; omega) | (simp; omega))) | (with_reducible refine ext_setCell ?_ ?_; · (first | omega | (simp only [World.size_alloc, World.size_setCell, World.size_drew, World.heap_drewN]; omega) | (simp; omega))) | (refine ext_call (by assumption) ?_ ?_; · (first | omega | (simp only [World.size_alloc, World.size_setCell, World.size_drew, World.heap_drewN]; omega) | (simp; omega))))))) (by simp) hl).mono ?_; rw [H.out]; rintro e w' ⟨rfl, hb⟩; have hz := hb.size; (try simp only [World.size_alloc, World.size_setCell, World.size_drew, World.heap_drewN] at hz); (try have hz0 : w.heap.size < w'.heap.size := by omega); (try have hz1 : w.heap.size + 1 < w'.heap.size := by omega); (try have hz2 : w.heap.size + 2 < w'.heap.size := by omega); (try have hz3 : w.heap.size + 3 < w'.heap.size := by omega); obtain ⟨hc, hf⟩ := bcell hb)
    exact bodyPost_ret (v := .tuple #[.agg #[i64 f.block, .bool f.factory, i64 f.after], .bool true]) (by simp [results, Tryz.results99, go_sem, *]) rfl ⟨rfl, by (repeat (first | exact Below.refl _ _ | assumption | (with_reducible refine Below.drew ?_) | (with_reducible refine below_drewN' ?_ _) | (with_reducible refine ext_alloc ?_ ?_; · (first | omega | (simp only [World.size_alloc, World.size_setCell, World.size_drew, World.heap_drewN]; omega) | (simp; omega))) | (with_reducible refine ext_setCell ?_ ?_; · (first | omega | (simp only [World.size_alloc, World.size_setCell, World.size_drew, World.heap_drewN]; omega) | (simp; omega))) | (refine ext_call (by assumption) ?_ ?_; · (first | omega | (simp only [World.size_alloc, World.size_setCell, World.size_drew, World.heap_drewN]; omega) | (simp; omega)))))⟩

def badB (fs : List Flt) (b : Int) : Bool := (faultOf fs b).any (·.factory)
def failsB (fs : List Flt) (b done : Int) : Bool := (faultOf fs b).any fun f => decide (f.after ≤ done)

set_option maxHeartbeats 1000000 in
theorem bad103 (fs : List Flt) (A : Option Addr) (cap : Nat) (b : Int) (w : World) (hv : SlAt w (.slice A fs.length cap) fs.length (fs.flatMap Flt.cells)) (hl : fs.length ≤ 20) :
    Calls Tryz.prog 103 #[.slice A fs.length cap, i64 b] w fun e w' => e = .returned (.bool (badB fs b)) ∧ Below w.heap.size w w' := by
  cases hf : faultOf fs b with
  | none =>
    have hb0 : badB fs b = false := by simp [badB, hf]
    have H := Lib.hid hf; have H2 := Lib.hid hb0; clear hf hb0
    go_enter Tryz.func103, Tryz.ntmps103
    go_wp2_with (go_at_call 99; refine (find99 fs A cap b _ hv hl).mono ?_; rw [H.out]; rintro e w' ⟨rfl, hb⟩; simp only [fltOut]; have hz := hb.size; (try simp only [World.size_alloc, World.size_setCell, World.size_drew, World.heap_drewN] at hz); (try have hz0 : w.heap.size < w'.heap.size := by omega); (try have hz1 : w.heap.size + 1 < w'.heap.size := by omega); (try have hz2 : w.heap.size + 2 < w'.heap.size := by omega); (try have hz3 : w.heap.size + 3 < w'.heap.size := by omega); obtain ⟨hc, hf⟩ := bcell hb)
    go_ret
    exact ⟨by rw [H2.out]; rfl, by (repeat (first | exact Below.refl _ _ | assumption | (with_reducible refine Below.drew ?_) | (with_reducible refine below_drewN' ?_ _) | (with_reducible refine ext_alloc ?_ ?_; · (first | omega | (simp only [World.size_alloc, World.size_setCell, World.size_drew, World.heap_drewN]; omega) | (simp; omega))) | (with_reducible refine ext_setCell ?_ ?_; · (first | omega | (simp only [World.size_alloc, World.size_setCell, World.size_drew, World.heap_drewN]; omega) | (simp; omega))) | (refine ext_call (by assumption) ?_ ?_; · (first | omega | (simp only [World.size_alloc, World.size_setCell, World.size_drew, World.heap_drewN]; omega) | (simp; omega)))))⟩
  | some f =>
    have hb0 : badB fs b = f.factory := by simp [badB, hf]
    have H := Lib.hid hf; have H2 := Lib.hid hb0; clear hf hb0
    cases hfac : f.factory
    all_goals
      go_enter Tryz.func103, Tryz.ntmps103
      go_wp2_with (go_at_call 99; refine (find99 fs A cap b _ hv hl).mono ?_; rw [H.out]; rintro e w' ⟨rfl, hb⟩; simp only [fltOut]; have hz := hb.size; (try simp only [World.size_alloc, World.size_setCell, World.size_drew, World.heap_drewN] at hz); (try have hz0 : w.heap.size < w'.heap.size := by omega); (try have hz1 : w.heap.size + 1 < w'.heap.size := by omega); (try have hz2 : w.heap.size + 2 < w'.heap.size := by omega); (try have hz3 : w.heap.size + 3 < w'.heap.size := by omega); obtain ⟨hc, hf⟩ := bcell hb)
      go_ret
      exact ⟨by rw [H2.out, hfac]; rfl, by (repeat (first | exact Below.refl _ _ | assumption | (with_reducible refine Below.drew ?_) | (with_reducible refine below_drewN' ?_ _) | (with_reducible refine ext_alloc ?_ ?_; · (first | omega | (simp only [World.size_alloc, World.size_setCell, World.size_drew, World.heap_drewN]; omega) | (simp; omega))) | (with_reducible refine ext_setCell ?_ ?_; · (first | omega | (simp only [World.size_alloc, World.size_setCell, World.size_drew, World.heap_drewN]; omega) | (simp; omega))) | (refine ext_call (by assumption) ?_ ?_; · (first | omega | (simp only [World.size_alloc, World.size_setCell, World.size_drew, World.heap_drewN]; omega) | (simp; omega)))))⟩

set_option maxHeartbeats 1000000 in
theorem fails127 (fs : List Flt) (A : Option Addr) (cap : Nat) (b done : Int) (w : World) (hv : SlAt w (.slice A fs.length cap) fs.length (fs.flatMap Flt.cells)) (hl : fs.length ≤ 20) :
    Calls Tryz.prog 127 #[.slice A fs.length cap, i64 b, i64 done] w fun e w' => e = .returned (.bool (failsB fs b done)) ∧ Below w.heap.size w w' := by
  cases hf : faultOf fs b with
  | none =>
    have hb0 : failsB fs b done = false := by simp [failsB, hf]
    have H := Lib.hid hf; have H2 := Lib.hid hb0; clear hf hb0
    go_enter Tryz.func127, Tryz.ntmps127
    go_wp2_with (go_at_call 99; refine (find99 fs A cap b _ hv hl).mono ?_; rw [H.out]; rintro e w' ⟨rfl, hb⟩; simp only [fltOut]; have hz := hb.size; (try simp only [World.size_alloc, World.size_setCell, World.size_drew, World.heap_drewN] at hz); (try have hz0 : w.heap.size < w'.heap.size := by omega); (try have hz1 : w.heap.size + 1 < w'.heap.size := by omega); (try have hz2 : w.heap.size + 2 < w'.heap.size := by omega); (try have hz3 : w.heap.size + 3 < w'.heap.size := by omega); obtain ⟨hc, hf⟩ := bcell hb)
    go_ret
    exact ⟨by rw [H2.out]; rfl, by (repeat (first | exact Below.refl _ _ | assumption | (with_reducible refine Below.drew ?_) | (with_reducible refine below_drewN' ?_ _) | (with_reducible refine ext_alloc ?_ ?_; · (first | omega | (simp only [World.size_alloc, World.size_setCell, World.size_drew, World.heap_drewN]; omega) | (simp; omega))) | (with_reducible refine ext_setCell ?_ ?_; · (first | omega | (simp only [World.size_alloc, World.size_setCell, World.size_drew, World.heap_drewN]; omega) | (simp; omega))) | (refine ext_call (by assumption) ?_ ?_; · (first | omega | (simp only [World.size_alloc, World.size_setCell, World.size_drew, World.heap_drewN]; omega) | (simp; omega)))))⟩
  | some f =>
    have hb0 : failsB fs b done = decide (f.after ≤ done) := by simp [failsB, hf]
    have H := Lib.hid hf; have H2 := Lib.hid hb0; clear hf hb0
    by_cases hfac : f.after ≤ done
    all_goals
      go_enter Tryz.func127, Tryz.ntmps127
      go_wp2_with (go_at_call 99; refine (find99 fs A cap b _ hv hl).mono ?_; rw [H.out]; rintro e w' ⟨rfl, hb⟩; simp only [fltOut]; have hz := hb.size; (try simp only [World.size_alloc, World.size_setCell, World.size_drew, World.heap_drewN] at hz); (try have hz0 : w.heap.size < w'.heap.size := by omega); (try have hz1 : w.heap.size + 1 < w'.heap.size := by omega); (try have hz2 : w.heap.size + 2 < w'.heap.size := by omega); (try have hz3 : w.heap.size + 3 < w'.heap.size := by omega); obtain ⟨hc, hf⟩ := bcell hb)
      go_ret
      exact ⟨by rw [H2.out]; simp [hfac], by (repeat (first | exact Below.refl _ _ | assumption | (with_reducible refine Below.drew ?_) | (with_reducible refine below_drewN' ?_ _) | (with_reducible refine ext_alloc ?_ ?_; · (first | omega | (simp only [World.size_alloc, World.size_setCell, World.size_drew, World.heap_drewN]; omega) | (simp; omega))) | (with_reducible refine ext_setCell ?_ ?_; · (first | omega | (simp only [World.size_alloc, World.size_setCell, World.size_drew, World.heap_drewN]; omega) | (simp; omega))) | (refine ext_call (by assumption) ?_ ?_; · (first | omega | (simp only [World.size_alloc, World.size_setCell, World.size_drew, World.heap_drewN]; omega) | (simp; omega)))))⟩
end Go.Proofs.YthghhcnpbehaiaaGreat
