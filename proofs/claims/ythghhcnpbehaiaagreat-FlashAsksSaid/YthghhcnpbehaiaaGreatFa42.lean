/- What the laws' arguments are: numbers, a geometry, bytes; and that they read as they did. -/
import Derived.Test.YthghhcnpbehaiaaGreatRows
import Derived.Test.YthghhcnpbehaiaaGreatFa41
import Derived.WalkKit
import Derived.ProofKit
import Derived.OpenShut
import Derived.Lib.SmallJoins

namespace Go.Proofs.YthghhcnpbehaiaaGreat
open Go.ChangeShapes Go.WideShapes Go.ChangeAt Go.RowKit Go.Joins

theorem law_own : ownKnob Tryz.prog.godebug = none := by kernel_rfl
theorem law_laid : laidOutB Tryz.prog = true := by kernel_rfl
theorem cells5 : Tryz.prog.cellsOf 5 = 1 := by kernel_rfl
theorem cells23 : Tryz.prog.cellsOf 23 = 5 := by kernel_rfl

theorem array5 {α : Type} {cs : Array α} (h : cs.size = 5) : ∃ c0 c1 c2 c3 c4, cs = #[c0, c1, c2, c3, c4] := by
  obtain ⟨l⟩ := cs
  match l, h with
  | [c0, c1, c2, c3, c4], _ => exact ⟨c0, c1, c2, c3, c4, rfl⟩

set_option maxHeartbeats 2000000 in
set_option maxRecDepth 100000 in
theorem open_geo {H : Type} {enc : TypeId × Value → H} {w : World} {base : Nat} {spare : Nat → Bool} {held : Bool} {r : Reach} {b0 : Nat} {v : Value} {d : DataW H} {p : List MemPlace} (hv : Value.okWide Tryz.prog w r b0 23 v)
    (h : DataW.Trod enc Tryz.prog w base spare held 23 v d p) : ∃ g : Geo, v = .agg #[i64 g.B, i64 g.P, i64 g.Y, i64 g.S, i64 g.T] := by
  obtain ⟨cs, rfl, hsz⟩ := okWide_struct Tryz.underlying23 hv
  obtain ⟨c0, c1, c2, c3, c4, rfl⟩ := array5 (hsz.trans cells23)
  obtain ⟨fuel, hf⟩ := h
  obtain ⟨xs, n, _, hx, hl, hlen, hff⟩ := DataW.trod_struct Tryz.underlying23 hf
  have k0 : ∃ m, c0 = .int .i64 m := by
    have h := hff 0 _ rfl
    rw [List.getElem?_eq_getElem (by rw [hlen]; decide)] at h
    obtain ⟨m, hm, -⟩ := DataW.trod_int (t := 3) Tryz.underlying3 h
    exact ⟨m, by simpa [Value.cells, cells3] using hm⟩
  have k1 : ∃ m, c1 = .int .i64 m := by
    have h := hff 1 _ rfl
    rw [List.getElem?_eq_getElem (by rw [hlen]; decide)] at h
    obtain ⟨m, hm, -⟩ := DataW.trod_int (t := 3) Tryz.underlying3 h
    exact ⟨m, by simpa [Value.cells, cells3] using hm⟩
  have k2 : ∃ m, c2 = .int .i64 m := by
    have h := hff 2 _ rfl
    rw [List.getElem?_eq_getElem (by rw [hlen]; decide)] at h
    obtain ⟨m, hm, -⟩ := DataW.trod_int (t := 3) Tryz.underlying3 h
    exact ⟨m, by simpa [Value.cells, cells3] using hm⟩
  have k3 : ∃ m, c3 = .int .i64 m := by
    have h := hff 3 _ rfl
    rw [List.getElem?_eq_getElem (by rw [hlen]; decide)] at h
    obtain ⟨m, hm, -⟩ := DataW.trod_int (t := 3) Tryz.underlying3 h
    exact ⟨m, by simpa [Value.cells, cells3] using hm⟩
  have k4 : ∃ m, c4 = .int .i64 m := by
    have h := hff 4 _ rfl
    rw [List.getElem?_eq_getElem (by rw [hlen]; decide)] at h
    obtain ⟨m, hm, -⟩ := DataW.trod_int (t := 3) Tryz.underlying3 h
    exact ⟨m, by simpa [Value.cells, cells3] using hm⟩
  obtain ⟨m0, rfl⟩ := k0
  obtain ⟨m1, rfl⟩ := k1
  obtain ⟨m2, rfl⟩ := k2
  obtain ⟨m3, rfl⟩ := k3
  obtain ⟨m4, rfl⟩ := k4
  exact ⟨⟨m0, m1, m2, m3, m4⟩, rfl⟩

set_option maxHeartbeats 2000000 in
set_option maxRecDepth 100000 in
theorem open_bytes {H : Type} {enc : TypeId × Value → H} {w : World} {v : Value} {d : DataW H} {p : List MemPlace} {r : Reach} {b0 : Nat} (hv : Value.okWide Tryz.prog w r b0 37 v)
    (h : DataW.Trod enc Tryz.prog w 0 (fun _ => true) true 37 v d p) (hfz : w.noneFrozen p) : ∃ (A : Option Addr) (len cap : Nat) (l : List Int), v = .slice A len cap ∧ l.length = len ∧ SlAt w (.slice A len cap) len (l.map u8) := by
  obtain ⟨a0, len, cap, rfl⟩ := okWide_slice Tryz.underlying37 hv
  obtain ⟨fuel, hf⟩ := h
  rcases open_ints Tryz.underlying37 Tryz.underlying5 cells5 hf with ⟨hcs, hx⟩ | ⟨a, len', cap', zs, hcs, _, hl, hm, hz, hx, hcell, hwz⟩
  · have e : a0 = none ∧ len = 0 ∧ cap = 0 := by simpa [Value.cells] using hcs
    obtain ⟨rfl, rfl, rfl⟩ := e
    exact ⟨none, 0, 0, [], rfl, rfl, ⟨none, 0, rfl, Nat.le_refl _, .inl rfl⟩⟩
  · have e : a0 = some a ∧ len = len' ∧ cap = cap' := by simpa [Value.cells] using hcs
    obtain ⟨rfl, rfl, rfl⟩ := e
    simp only [if_true] at hz
    refine ⟨some a, len, cap, zs.take len, rfl, by simp; omega, ⟨_, cap, rfl, hl, ?_⟩⟩
    by_cases h0 : len = 0
    · subst h0; exact .inl rfl
    · right
      obtain ⟨b, off, rfl, hc⟩ := ints_at hcell (by omega)
      refine ⟨b, off, rfl, fun i v hi => ?_⟩
      have hil : i < len := by have := (List.getElem?_eq_some_iff.1 hi).1; simp at this; omega
      have hiz : i < zs.length := by omega
      have hvv : v = .int .u8 (zs.getD i 0) := by
        rw [List.getElem?_map, List.getElem?_take_of_lt hil, List.getElem?_eq_getElem hiz] at hi
        simp only [Option.map_some, Option.some.injEq] at hi
        rw [← hi, List.getD, List.getElem?_eq_getElem hiz]; rfl
      refine ⟨by rw [hvv]; exact hc i hiz, ?_⟩
      refine hfz b (off + i) ?_
      have hx2 : p = MemPlace.row ⟨b, off, none⟩ zs.length := by
        simp only [Prod.mk.injEq] at hx
        exact hx.2
      rw [hx2]
      exact MemPlace.mem_row.2 ⟨i, hiz, rfl⟩

theorem wf_ok64 {n : Int} (h : (Lit.int .i64 n).wf = true) : ok64 n := by
  simp only [Lit.wf, IntKind.has, Bool.and_eq_true, decide_eq_true_eq] at h
  have h1 := h.1; have h2 := h.2
  simp only [ok64]
  constructor
  · refine Int.le_trans (Int.le_of_eq ?_) h1; rfl
  · refine Int.le_trans h2 (Int.le_of_eq ?_); rfl
end Go.Proofs.YthghhcnpbehaiaaGreat
