/- The chip as it lies in memory, and what its small functions answer. -/
import Derived.Test.YthghhcnpbehaiaaGreatFa07
import Derived.Test.YthghhcnpbehaiaaGreatFa03

namespace Go.Proofs.YthghhcnpbehaiaaGreat
open Go.RowKit

/-- A block: its bytes, how many pages were programmed, how often it was erased, how much went well. -/
structure Blk where
  (by_ : List Int) (next wear done : Int)
/-- A chip. -/
structure Chip where
  (g : Geo) (fs : List Flt) (bk : List Blk) (off : Bool) (ops cuts cop cby cfi turn : Int)
/-- Where a chip lies: its struct, its row of blocks, each block's bytes; the slice of faults. -/
structure CA where
  (c bl : Nat) (bs : List Nat) (bcap : Nat) (fA : Option Addr) (fcap : Nat)

def CA.foot (A : CA) (k : Nat) : Prop := k = A.c ∨ k = A.bl ∨ k ∈ A.bs
abbrev Blk.cells (n : Nat) (b : Blk) : List Value := [.slice (some ⟨n, 0, none⟩) b.by_.length b.by_.length, i64 b.next, i64 b.wear, i64 b.done]
abbrev Chip.cells (A : CA) (C : Chip) : List Value :=
  [i64 C.g.B, i64 C.g.P, i64 C.g.Y, i64 C.g.S, i64 C.g.T, .slice A.fA C.fs.length A.fcap, .slice (some ⟨A.bl, 0, none⟩) C.bk.length A.bcap, .bool C.off, i64 C.ops, i64 C.cuts, i64 C.cop, i64 C.cby, u8 C.cfi, i64 C.turn]

structure ChipAt (w : World) (A : CA) (C : Chip) : Prop where
  str : Row w A.c 0 (C.cells A)
  fs : SlAt w (.slice A.fA C.fs.length A.fcap) C.fs.length (C.fs.flatMap Flt.cells)
  fsl : C.fs.length ≤ 8
  fsn : ∀ k o, A.fA = some ⟨k, o, none⟩ → ¬ A.foot k
  len : A.bs.length = C.bk.length
  cap : C.bk.length ≤ A.bcap
  row : ∀ (i : Nat) (b : Blk) (n : Nat), C.bk[i]? = some b → A.bs[i]? = some n → Row w A.bl (i * 4) (b.cells n) ∧ w.heap[n]? = some (.cells (b.by_.map u8).toArray 5 (0, 0))
  ne1 : A.c ≠ A.bl
  ne2 : A.c ∉ A.bs
  ne3 : A.bl ∉ A.bs
  nd : A.bs.Nodup
  ok : C.g.okB = true
  bn : (C.bk.length : Int) = C.g.B
  sz : ∀ (i : Nat) (b : Blk), C.bk[i]? = some b → (b.by_.length : Int) = C.g.P * (C.g.Y + 16) ∧ 0 ≤ b.next ∧ b.next ≤ C.g.P ∧ 0 ≤ b.wear ∧ b.wear < 4611686018427387904 ∧ 0 ≤ b.done ∧ b.done < 4611686018427387904
  opsb : 0 ≤ C.ops ∧ C.ops < 4611686018427387904

namespace ChipAt
variable {w w' : World} {A : CA} {C : Chip}
theorem flt (h : ChipAt w A C) {k : Nat} (hk : A.foot k) : k < w.heap.size := by
  rcases hk with rfl | rfl | hk
  · exact h.str.lt (by simp)
  · have hb : 0 < C.bk.length := by have := ((Geo.ok_iff _).1 h.ok).b1; have := h.bn; omega
    obtain ⟨b, hb'⟩ : ∃ b, C.bk[0]? = some b := ⟨C.bk[0], List.getElem?_eq_getElem hb⟩
    obtain ⟨n, hn⟩ : ∃ n, A.bs[0]? = some n := ⟨A.bs[0]'(by rw [h.len]; exact hb), List.getElem?_eq_getElem _⟩
    exact (h.row 0 b n hb' hn).1.lt (by simp)
  · obtain ⟨i, hi⟩ := List.mem_iff_getElem?.1 hk
    have hil : i < C.bk.length := by rw [← h.len]; exact (List.getElem?_eq_some_iff.1 hi).1
    have hb' : C.bk[i]? = some C.bk[i] := List.getElem?_eq_getElem hil
    exact heap_lt (h.row i _ k hb' hi).2
theorem of_eq (h : ChipAt w A C) (e : ∀ k, A.foot k → w'.heap[k]? = w.heap[k]?) (e2 : ∀ k, k < w.heap.size → ¬ A.foot k → w'.heap[k]? = w.heap[k]?) : ChipAt w' A C := by
  refine { h with str := h.str.of_block (e _ (.inl rfl)), fs := ?_, row := fun i b n hb hn => ⟨(h.row i b n hb hn).1.of_block (e _ (.inr (.inl rfl))), (e _ (.inr (.inr (List.mem_of_getElem? hn)))).trans (h.row i b n hb hn).2⟩ }
  obtain ⟨a, cap, hv, hc, hr | ⟨b, o, ha, hr⟩⟩ := h.fs
  · exact ⟨a, cap, hv, hc, .inl hr⟩
  · refine ⟨a, cap, hv, hc, ?_⟩
    by_cases hne : C.fs.flatMap Flt.cells = []
    · exact .inl hne
    · simp only [Value.slice.injEq] at hv
      exact .inr ⟨b, o, ha, hr.of_block (e2 _ (hr.lt hne) (h.fsn b o (hv.1.trans ha)))⟩
theorem below (h : ChipAt w A C) (hb : Below w.heap.size w w') : ChipAt w' A C := h.of_eq (fun k hk => hb.block k (h.flt hk)) (fun k hk _ => hb.block k hk)
theorem turns {M : Nat → Prop} (h : ChipAt w A C) (hb : Turns M w w') (hm : ∀ k, A.foot k → ¬ M k) (hm2 : ∀ k o, A.fA = some ⟨k, o, none⟩ → ¬ M k) : ChipAt w' A C := by
  refine { h with str := h.str.turns hb (hm _ (.inl rfl)), fs := ?_, row := fun i b n hb' hn => ⟨(h.row i b n hb' hn).1.turns hb (hm _ (.inr (.inl rfl))), (hb.block _ (heap_lt (h.row i b n hb' hn).2) (hm _ (.inr (.inr (List.mem_of_getElem? hn))))).trans (h.row i b n hb' hn).2⟩ }
  obtain ⟨a, cap, hv, hc, hr | ⟨b, o, ha, hr⟩⟩ := h.fs
  · exact ⟨a, cap, hv, hc, .inl hr⟩
  · simp only [Value.slice.injEq] at hv
    exact ⟨a, cap, by rw [hv.1, hv.2.2], hc, .inr ⟨b, o, ha, hr.turns hb (hm2 b o (hv.1.trans ha))⟩⟩
theorem drewN (h : ChipAt w A C) (n : Nat) : ChipAt (w.drewN n) A C := h.below (below_drewN' (Below.refl _ _) n)
end ChipAt

theorem on59 {w : World} {A : CA} {C : Chip} (h : ChipAt w A C) : Calls Tryz.prog 59 #[ptr A.c] w fun e w' => e = .returned (.bool (!C.off)) ∧ w = w' := by
  have c7 := h.str.cell0 7 rfl
  go_enter Tryz.func59, Tryz.ntmps59
  go_wp2
  go_ret
  exact ⟨rfl, rfl⟩

theorem ops27 {w : World} {A : CA} {C : Chip} (h : ChipAt w A C) : Calls Tryz.prog 27 #[ptr A.c] w fun e w' => e = .returned (i64 C.ops) ∧ w = w' := by
  have c7 := h.str.cell0 8 rfl
  go_enter Tryz.func27, Tryz.ntmps27
  go_wp2
  go_ret
  exact ⟨rfl, rfl⟩

theorem cuts81 {w : World} {A : CA} {C : Chip} (h : ChipAt w A C) : Calls Tryz.prog 81 #[ptr A.c] w fun e w' => e = .returned (i64 C.cuts) ∧ w = w' := by
  have c7 := h.str.cell0 9 rfl
  go_enter Tryz.func81, Tryz.ntmps81
  go_wp2
  go_ret
  exact ⟨rfl, rfl⟩

theorem geo60 {w : World} {A : CA} {C : Chip} (h : ChipAt w A C) : Calls Tryz.prog 60 #[ptr A.c] w fun e w' => e = .returned C.g.v ∧ Below w.heap.size w w' := by
  have c0 := h.str.cell0 0 rfl
  have c1 := h.str.cell0 1 rfl
  have c2 := h.str.cell0 2 rfl
  have c3 := h.str.cell0 3 rfl
  have c4 := h.str.cell0 4 rfl
  have hlt := World.block_lt_of_cell? _ _ c0
  have hne : A.c ≠ w.heap.size := by have := hlt; simp at this; omega
  go_enter Tryz.func60, Tryz.ntmps60
  go_wp2
  exact bodyPost_ret (v := .agg #[i64 C.g.B, i64 C.g.P, i64 C.g.Y, i64 C.g.S, i64 C.g.T]) (by simp [results, Tryz.results60, go_sem, *]) rfl ⟨rfl, by (repeat (first | exact Below.refl _ _ | assumption | (with_reducible refine Below.drew ?_) | (with_reducible refine below_drewN' ?_ _) | (with_reducible refine ext_alloc ?_ ?_; · (first | omega | (simp only [World.size_alloc, World.size_setCell, World.size_drew, World.heap_drewN]; omega) | (simp; omega))) | (with_reducible refine ext_setCell ?_ ?_; · (first | omega | (simp only [World.size_alloc, World.size_setCell, World.size_drew, World.heap_drewN]; omega) | (simp; omega))) | (refine ext_call (by assumption) ?_ ?_; · (first | omega | (simp only [World.size_alloc, World.size_setCell, World.size_drew, World.heap_drewN]; omega) | (simp; omega)))))⟩

def Chip.badB (C : Chip) (b : Int) : Bool := Go.Proofs.YthghhcnpbehaiaaGreat.badB C.fs b

theorem bad62 {w : World} {A : CA} {C : Chip} (h : ChipAt w A C) (b : Int) : Calls Tryz.prog 62 #[ptr A.c, i64 b] w fun e w' => e = .returned (.bool (C.badB b)) ∧ Below w.heap.size w w' := by
  have c5 := h.str.cell0 5 rfl
  go_enter Tryz.func62, Tryz.ntmps62
  go_wp2_with (go_at_call 103; refine (bad103 C.fs A.fA A.fcap b _ h.fs (by have := h.fsl; omega)).mono ?_; rintro e w' ⟨rfl, hb⟩)
  go_ret
  exact ⟨rfl, by (repeat (first | exact Below.refl _ _ | assumption | (with_reducible refine Below.drew ?_) | (with_reducible refine below_drewN' ?_ _) | (with_reducible refine ext_alloc ?_ ?_; · (first | omega | (simp only [World.size_alloc, World.size_setCell, World.size_drew, World.heap_drewN]; omega) | (simp; omega))) | (with_reducible refine ext_setCell ?_ ?_; · (first | omega | (simp only [World.size_alloc, World.size_setCell, World.size_drew, World.heap_drewN]; omega) | (simp; omega))) | (refine ext_call (by assumption) ?_ ?_; · (first | omega | (simp only [World.size_alloc, World.size_setCell, World.size_drew, World.heap_drewN]; omega) | (simp; omega)))))⟩

/-- A block's own word, as the chip has it: none has none. -/
def Chip.at (C : Chip) (n : Int) : Option Blk := if 0 ≤ n then C.bk[n.toNat]? else none
def Chip.wearOf (C : Chip) (n : Int) : Int := ((C.at n).map (·.wear)).getD 0
def Chip.usedOf (C : Chip) (n : Int) : Int := ((C.at n).map (·.next)).getD 0
def Chip.failedB (C : Chip) (n : Int) : Bool := (C.at n).any fun b => failsB C.fs n b.done

theorem Chip.at_some {C : Chip} {n : Int} {b : Blk} (h : C.at n = some b) : 0 ≤ n ∧ n < C.bk.length ∧ C.bk[n.toNat]? = some b := by
  unfold Chip.at at h
  split at h
  · have := (List.getElem?_eq_some_iff.1 h).1; exact ⟨by assumption, by omega, h⟩
  · cases h
theorem Chip.at_none {C : Chip} {n : Int} (h : C.at n = none) : n < 0 ∨ C.bk.length ≤ n := by
  unfold Chip.at at h
  split at h
  · rw [List.getElem?_eq_none_iff] at h; omega
  · omega

set_option maxHeartbeats 1000000 in
set_option maxRecDepth 100000 in
theorem failed78 {w : World} {A : CA} {C : Chip} (h : ChipAt w A C) (n : Int) (b : Blk) (hn : C.at n = some b) : Calls Tryz.prog 78 #[ptr A.c, i64 n] w fun e w' => e = .returned (.bool (failsB C.fs n b.done)) ∧ Below w.heap.size w w' := by
  obtain ⟨n0, n1, n2⟩ := Chip.at_some hn
  have nb : ∃ k, A.bs[n.toNat]? = some k := ⟨_, List.getElem?_eq_getElem (by rw [h.len]; omega)⟩
  obtain ⟨k, hk⟩ := nb
  have c5 := h.str.cell0 5 rfl
  have c6 := h.str.cell0 6 rfl
  have hrow := (h.row _ b k n2 hk).1
  obtain ⟨m, rfl⟩ := Int.eq_ofNat_of_zero_le n0
  simp only [Int.toNat_natCast] at hrow
  have d3 : w.cell? ⟨A.bl, m * 4 + 3, none⟩ = some (i64 b.done) := hrow.cell 3 rfl
  clear hrow
  have l1 : A.c < w.heap.size := h.flt (.inl rfl)
  have l2 : A.bl < w.heap.size := h.flt (.inr (.inl rfl))
  have n1' : m < C.bk.length := by omega
  go_enter Tryz.func78, Tryz.ntmps78
  go_wp2
  refine wp_region_keep 29 (fun wJ => Below (w).heap.size (w) wJ) (by kernel_rfl) (by kernel_rfl) (by (repeat (first | exact Below.refl _ _ | assumption | (with_reducible refine Below.drew ?_) | (with_reducible refine below_drewN' ?_ _) | (with_reducible refine ext_alloc ?_ ?_; · (first | omega | (simp only [World.size_alloc, World.size_setCell, World.size_drew, World.heap_drewN]; omega) | (simp; omega))) | (with_reducible refine ext_setCell ?_ ?_; · (first | omega | (simp only [World.size_alloc, World.size_setCell, World.size_drew, World.heap_drewN]; omega) | (simp; omega))) | (refine ext_call (by assumption) ?_ ?_; · (first | omega | (simp only [World.size_alloc, World.size_setCell, World.size_drew, World.heap_drewN]; omega) | (simp; omega)))))) ?_
  simp only [List.take_succ_cons, List.take_zero, List.drop_succ_cons, List.drop_zero]
  iterate 29 (apply keep_yes; (· rfl); (· (intro w' hJ; (try obtain ⟨hc', hf'⟩ := bcell hJ); refine gives_of (by (go_simp; rfl)) rfl hJ)); simp only [Act.put, List.setIfInBounds_toArray, List.set_cons_zero, List.set_cons_succ])
  refine keep_nil ?_
  intro w1 hJ
  have hJs := hJ.size
  go_wp2_with (go_at_call 127; refine (fails127 C.fs A.fA A.fcap m b.done _ (h.fs.below hJ) (by have := h.fsl; omega)).mono ?_; rintro e w' ⟨rfl, hb⟩)
  go_ret
  exact ⟨rfl, by (repeat (first | exact Below.refl _ _ | assumption | (with_reducible refine Below.drew ?_) | (with_reducible refine below_drewN' ?_ _) | (with_reducible refine ext_alloc ?_ ?_; · (first | omega | (simp only [World.size_alloc, World.size_setCell, World.size_drew, World.heap_drewN]; omega) | (simp; omega))) | (with_reducible refine ext_setCell ?_ ?_; · (first | omega | (simp only [World.size_alloc, World.size_setCell, World.size_drew, World.heap_drewN]; omega) | (simp; omega))) | (refine ext_call (by assumption) ?_ ?_; · (first | omega | (simp only [World.size_alloc, World.size_setCell, World.size_drew, World.heap_drewN]; omega) | (simp; omega)))))⟩
end Go.Proofs.YthghhcnpbehaiaaGreat

/- The chip's small functions, on. -/
namespace Go.Proofs.YthghhcnpbehaiaaGreat
open Go.RowKit

/-- What lies where, of one block. -/
structure BlkAt (w : World) (A : CA) (C : Chip) (m : Nat) (b : Blk) (k : Nat) : Prop where
  lt : m < C.bk.length
  hb : C.bk[m]? = some b
  hk : A.bs[m]? = some k
  d0 : w.cell? ⟨A.bl, m * 4, none⟩ = some (.slice (some ⟨k, 0, none⟩) b.by_.length b.by_.length)
  d1 : w.cell? ⟨A.bl, m * 4 + 1, none⟩ = some (i64 b.next)
  d2 : w.cell? ⟨A.bl, m * 4 + 2, none⟩ = some (i64 b.wear)
  d3 : w.cell? ⟨A.bl, m * 4 + 3, none⟩ = some (i64 b.done)

theorem ChipAt.blk {w : World} {A : CA} {C : Chip} (h : ChipAt w A C) {n : Int} {b : Blk} (hn : C.at n = some b) : ∃ m k : Nat, n = m ∧ BlkAt w A C m b k := by
  obtain ⟨n0, n1, n2⟩ := Chip.at_some hn
  obtain ⟨m, rfl⟩ := Int.eq_ofNat_of_zero_le n0
  simp only [Int.toNat_natCast] at n2
  obtain ⟨k, hk⟩ : ∃ k, A.bs[m]? = some k := ⟨_, List.getElem?_eq_getElem (by rw [h.len]; omega)⟩
  have hrow := (h.row _ b k n2 hk).1
  exact ⟨m, k, rfl, by omega, n2, hk, hrow.cell 0 rfl, hrow.cell 1 rfl, hrow.cell 2 rfl, hrow.cell 3 rfl⟩

set_option maxHeartbeats 2000000 in
set_option maxRecDepth 100000 in
theorem at126 {w : World} {A : CA} {C : Chip} (h : ChipAt w A C) (n : Int) (b : Blk) (hn : C.at n = some b) :
    Calls Tryz.prog 126 #[ptr A.c, i64 n] w fun e w' => (∃ x y z, e = .returned (.agg #[.slice x y z, i64 b.next, i64 b.wear, i64 b.done])) ∧ Below w.heap.size w w' := by
  obtain ⟨m, k, rfl, hB⟩ := h.blk hn
  have c6 := h.str.cell0 6 rfl
  obtain ⟨lt, hb, hk, d0, d1, d2, d3⟩ := hB
  clear hb hk
  have l1 : A.c < w.heap.size := h.flt (.inl rfl)
  have l2 : A.bl < w.heap.size := h.flt (.inr (.inl rfl))
  have l3 : A.bl ≠ w.heap.size := by omega
  have i0 : (0 : Int) ≤ (m : Int) := by omega
  go_enter Tryz.func126, Tryz.ntmps126
  go_wp2
  exact bodyPost_ret (v := .agg #[.slice (some ⟨k, 0, none⟩) b.by_.length b.by_.length, i64 b.next, i64 b.wear, i64 b.done]) (by simp [results, Tryz.results126, go_sem, *]) rfl ⟨⟨_, _, _, rfl⟩, by (repeat (first | exact Below.refl _ _ | assumption | (with_reducible refine Below.drew ?_) | (with_reducible refine below_drewN' ?_ _) | (with_reducible refine ext_alloc ?_ ?_; · (first | omega | (simp only [World.size_alloc, World.size_setCell, World.size_drew, World.heap_drewN]; omega) | (simp; omega))) | (with_reducible refine ext_setCell ?_ ?_; · (first | omega | (simp only [World.size_alloc, World.size_setCell, World.size_drew, World.heap_drewN]; omega) | (simp; omega))) | (refine ext_call (by assumption) ?_ ?_; · (first | omega | (simp only [World.size_alloc, World.size_setCell, World.size_drew, World.heap_drewN]; omega) | (simp; omega)))))⟩

set_option maxHeartbeats 2000000 in
set_option maxRecDepth 100000 in
theorem at126_none {w : World} {A : CA} {C : Chip} (h : ChipAt w A C) (n : Int) (hn : C.at n = none) :
    Calls Tryz.prog 126 #[ptr A.c, i64 n] w fun e w' => (∃ x y z, e = .returned (.agg #[.slice x y z, i64 0, i64 0, i64 0])) ∧ Below w.heap.size w w' := by
  have hn := Chip.at_none hn
  have c6 := h.str.cell0 6 rfl
  have l1 : A.c < w.heap.size := h.flt (.inl rfl)
  by_cases h0 : n < 0
  · go_enter Tryz.func126, Tryz.ntmps126
    go_wp2
    exact bodyPost_ret (v := .agg #[.slice none 0 0, i64 0, i64 0, i64 0]) (by simp [results, Tryz.results126, go_sem, *]) rfl ⟨⟨_, _, _, rfl⟩, by (repeat (first | exact Below.refl _ _ | assumption | (with_reducible refine Below.drew ?_) | (with_reducible refine below_drewN' ?_ _) | (with_reducible refine ext_alloc ?_ ?_; · (first | omega | (simp only [World.size_alloc, World.size_setCell, World.size_drew, World.heap_drewN]; omega) | (simp; omega))) | (with_reducible refine ext_setCell ?_ ?_; · (first | omega | (simp only [World.size_alloc, World.size_setCell, World.size_drew, World.heap_drewN]; omega) | (simp; omega))) | (refine ext_call (by assumption) ?_ ?_; · (first | omega | (simp only [World.size_alloc, World.size_setCell, World.size_drew, World.heap_drewN]; omega) | (simp; omega)))))⟩
  · have h1 : (C.bk.length : Int) ≤ n := by omega
    go_enter Tryz.func126, Tryz.ntmps126
    go_wp2
    exact bodyPost_ret (v := .agg #[.slice none 0 0, i64 0, i64 0, i64 0]) (by simp [results, Tryz.results126, go_sem, *]) rfl ⟨⟨_, _, _, rfl⟩, by (repeat (first | exact Below.refl _ _ | assumption | (with_reducible refine Below.drew ?_) | (with_reducible refine below_drewN' ?_ _) | (with_reducible refine ext_alloc ?_ ?_; · (first | omega | (simp only [World.size_alloc, World.size_setCell, World.size_drew, World.heap_drewN]; omega) | (simp; omega))) | (with_reducible refine ext_setCell ?_ ?_; · (first | omega | (simp only [World.size_alloc, World.size_setCell, World.size_drew, World.heap_drewN]; omega) | (simp; omega))) | (refine ext_call (by assumption) ?_ ?_; · (first | omega | (simp only [World.size_alloc, World.size_setCell, World.size_drew, World.heap_drewN]; omega) | (simp; omega)))))⟩

theorem field96 (x : Option Addr) (y z : Nat) (a b c : Int) (w : World) : (Instr.field 96 (.agg #[.slice x y z, i64 a, i64 b, i64 c]) 2).run Tryz.prog w = .ok (i64 b) w := by kernel_rfl
theorem field96' (x : Option Addr) (y z : Nat) (a b c : Int) (w : World) : (Instr.field 96 (.agg #[.slice x y z, i64 a, i64 b, i64 c]) 1).run Tryz.prog w = .ok (i64 a) w := by kernel_rfl

set_option maxHeartbeats 2000000 in
set_option maxRecDepth 100000 in
theorem wear77 {w : World} {A : CA} {C : Chip} (h : ChipAt w A C) (n : Int) :
    Calls Tryz.prog 77 #[ptr A.c, i64 n] w fun e w' => e = .returned (i64 (C.wearOf n)) ∧ Below w.heap.size w w' := by
  cases hn : C.at n with
  | some b =>
    have hw : C.wearOf n = b.wear := by simp [Chip.wearOf, hn]
    rw [hw]; have HN := Lib.hid hn; clear hn hw
    have hF := field96
    go_enter Tryz.func77, Tryz.ntmps77
    go_wp2_with (go_at_call 126; refine (at126 h n b HN.out).mono ?_; rintro e w' ⟨⟨x, y, z, rfl⟩, hb⟩)
    go_ret
    exact ⟨rfl, by (repeat (first | exact Below.refl _ _ | assumption | (with_reducible refine Below.drew ?_) | (with_reducible refine below_drewN' ?_ _) | (with_reducible refine ext_alloc ?_ ?_; · (first | omega | (simp only [World.size_alloc, World.size_setCell, World.size_drew, World.heap_drewN]; omega) | (simp; omega))) | (with_reducible refine ext_setCell ?_ ?_; · (first | omega | (simp only [World.size_alloc, World.size_setCell, World.size_drew, World.heap_drewN]; omega) | (simp; omega))) | (refine ext_call (by assumption) ?_ ?_; · (first | omega | (simp only [World.size_alloc, World.size_setCell, World.size_drew, World.heap_drewN]; omega) | (simp; omega)))))⟩
  | none =>
    have hw : C.wearOf n = 0 := by simp [Chip.wearOf, hn]
    rw [hw]; have HN := Lib.hid hn; clear hn hw
    have hF := field96
    go_enter Tryz.func77, Tryz.ntmps77
    go_wp2_with (go_at_call 126; refine (at126_none h n HN.out).mono ?_; rintro e w' ⟨⟨x, y, z, rfl⟩, hb⟩)
    go_ret
    exact ⟨rfl, by (repeat (first | exact Below.refl _ _ | assumption | (with_reducible refine Below.drew ?_) | (with_reducible refine below_drewN' ?_ _) | (with_reducible refine ext_alloc ?_ ?_; · (first | omega | (simp only [World.size_alloc, World.size_setCell, World.size_drew, World.heap_drewN]; omega) | (simp; omega))) | (with_reducible refine ext_setCell ?_ ?_; · (first | omega | (simp only [World.size_alloc, World.size_setCell, World.size_drew, World.heap_drewN]; omega) | (simp; omega))) | (refine ext_call (by assumption) ?_ ?_; · (first | omega | (simp only [World.size_alloc, World.size_setCell, World.size_drew, World.heap_drewN]; omega) | (simp; omega)))))⟩

set_option maxHeartbeats 2000000 in
set_option maxRecDepth 100000 in
theorem used153 {w : World} {A : CA} {C : Chip} (h : ChipAt w A C) (n : Int) :
    Calls Tryz.prog 153 #[ptr A.c, i64 n] w fun e w' => e = .returned (i64 (C.usedOf n)) ∧ Below w.heap.size w w' := by
  cases hn : C.at n with
  | some b =>
    have hw : C.usedOf n = b.next := by simp [Chip.usedOf, hn]
    rw [hw]; have HN := Lib.hid hn; clear hn hw
    have hF := field96'
    go_enter Tryz.func153, Tryz.ntmps153
    go_wp2_with (go_at_call 126; refine (at126 h n b HN.out).mono ?_; rintro e w' ⟨⟨x, y, z, rfl⟩, hb⟩)
    go_ret
    exact ⟨rfl, by (repeat (first | exact Below.refl _ _ | assumption | (with_reducible refine Below.drew ?_) | (with_reducible refine below_drewN' ?_ _) | (with_reducible refine ext_alloc ?_ ?_; · (first | omega | (simp only [World.size_alloc, World.size_setCell, World.size_drew, World.heap_drewN]; omega) | (simp; omega))) | (with_reducible refine ext_setCell ?_ ?_; · (first | omega | (simp only [World.size_alloc, World.size_setCell, World.size_drew, World.heap_drewN]; omega) | (simp; omega))) | (refine ext_call (by assumption) ?_ ?_; · (first | omega | (simp only [World.size_alloc, World.size_setCell, World.size_drew, World.heap_drewN]; omega) | (simp; omega)))))⟩
  | none =>
    have hw : C.usedOf n = 0 := by simp [Chip.usedOf, hn]
    rw [hw]; have HN := Lib.hid hn; clear hn hw
    have hF := field96'
    go_enter Tryz.func153, Tryz.ntmps153
    go_wp2_with (go_at_call 126; refine (at126_none h n HN.out).mono ?_; rintro e w' ⟨⟨x, y, z, rfl⟩, hb⟩)
    go_ret
    exact ⟨rfl, by (repeat (first | exact Below.refl _ _ | assumption | (with_reducible refine Below.drew ?_) | (with_reducible refine below_drewN' ?_ _) | (with_reducible refine ext_alloc ?_ ?_; · (first | omega | (simp only [World.size_alloc, World.size_setCell, World.size_drew, World.heap_drewN]; omega) | (simp; omega))) | (with_reducible refine ext_setCell ?_ ?_; · (first | omega | (simp only [World.size_alloc, World.size_setCell, World.size_drew, World.heap_drewN]; omega) | (simp; omega))) | (refine ext_call (by assumption) ?_ ?_; · (first | omega | (simp only [World.size_alloc, World.size_setCell, World.size_drew, World.heap_drewN]; omega) | (simp; omega)))))⟩

/-- What is wrong ahead of an operation on a place. -/
def Chip.asked (C : Chip) (p : Plc) : Int := if C.off then 9 else if C.g.isB p then 0 else 2

set_option maxHeartbeats 2000000 in
set_option maxRecDepth 100000 in
theorem asked83 {w : World} {A : CA} {C : Chip} (h : ChipAt w A C) (p : Plc) :
    Calls Tryz.prog 83 #[ptr A.c, .agg #[i64 p.b, i64 p.p]] w fun e w' => e = .returned (i64 (C.asked p)) ∧ Below w.heap.size w w' := by
  have c0 := h.str.cell0 0 rfl
  have c1 := h.str.cell0 1 rfl
  have c2 := h.str.cell0 2 rfl
  have c3 := h.str.cell0 3 rfl
  have c4 := h.str.cell0 4 rfl
  have c7 := h.str.cell0 7 rfl
  have l1 : A.c < w.heap.size := h.flt (.inl rfl)
  have l3 : A.c ≠ w.heap.size := by omega
  have l4 : A.c < w.heap.size + 1 := by omega
  cases ho : C.off
  · rw [ho] at c7
    cases hi : C.g.isB p
    · have ha : C.asked p = 2 := by simp [Chip.asked, ho, hi]
      rw [ha]; clear ha
      go_enter Tryz.func83, Tryz.ntmps83
      go_wp2
      refine wp_region_keep 5 (fun wJ => Below ((w.alloc (.cells #[i64 p.b, i64 p.p] 75))).heap.size ((w.alloc (.cells #[i64 p.b, i64 p.p] 75))) wJ) (by kernel_rfl) (by kernel_rfl) (by (repeat (first | exact Below.refl _ _ | assumption | (with_reducible refine Below.drew ?_) | (with_reducible refine below_drewN' ?_ _) | (with_reducible refine ext_alloc ?_ ?_; · (first | omega | (simp only [World.size_alloc, World.size_setCell, World.size_drew, World.heap_drewN]; omega) | (simp; omega))) | (with_reducible refine ext_setCell ?_ ?_; · (first | omega | (simp only [World.size_alloc, World.size_setCell, World.size_drew, World.heap_drewN]; omega) | (simp; omega))) | (refine ext_call (by assumption) ?_ ?_; · (first | omega | (simp only [World.size_alloc, World.size_setCell, World.size_drew, World.heap_drewN]; omega) | (simp; omega)))))) ?_
      simp only [List.take_succ_cons, List.take_zero, List.drop_succ_cons, List.drop_zero]
      iterate 5 (apply keep_yes; (· rfl); (· (intro w' hJ; (try obtain ⟨hc', hf'⟩ := bcell hJ); refine gives_of (by (go_simp; rfl)) rfl hJ)); simp only [Act.put, List.setIfInBounds_toArray, List.set_cons_zero, List.set_cons_succ])
      refine keep_nil ?_
      intro w1 hJ
      have hJs := hJ.size
      simp only [World.size_alloc] at hJs
      go_wp2_with (go_at_call 102; refine (number_no C.g p _ h.ok hi).mono ?_; rintro e w' ⟨rfl, hb⟩)
      go_ret
      exact ⟨rfl, by (repeat (first | exact Below.refl _ _ | assumption | (with_reducible refine Below.drew ?_) | (with_reducible refine below_drewN' ?_ _) | (with_reducible refine ext_alloc ?_ ?_; · (first | omega | (simp only [World.size_alloc, World.size_setCell, World.size_drew, World.heap_drewN]; omega) | (simp; omega))) | (with_reducible refine ext_setCell ?_ ?_; · (first | omega | (simp only [World.size_alloc, World.size_setCell, World.size_drew, World.heap_drewN]; omega) | (simp; omega))) | (refine ext_call (by assumption) ?_ ?_; · (first | omega | (simp only [World.size_alloc, World.size_setCell, World.size_drew, World.heap_drewN]; omega) | (simp; omega)))))⟩
    · have ha : C.asked p = 0 := by simp [Chip.asked, ho, hi]
      rw [ha]; clear ha
      have hn := num_bounds h.ok hi
      have hn0 : 0 ≤ C.g.num p := by unfold Geo.num; omega
      clear hn
      go_enter Tryz.func83, Tryz.ntmps83
      go_wp2
      refine wp_region_keep 5 (fun wJ => Below ((w.alloc (.cells #[i64 p.b, i64 p.p] 75))).heap.size ((w.alloc (.cells #[i64 p.b, i64 p.p] 75))) wJ) (by kernel_rfl) (by kernel_rfl) (by (repeat (first | exact Below.refl _ _ | assumption | (with_reducible refine Below.drew ?_) | (with_reducible refine below_drewN' ?_ _) | (with_reducible refine ext_alloc ?_ ?_; · (first | omega | (simp only [World.size_alloc, World.size_setCell, World.size_drew, World.heap_drewN]; omega) | (simp; omega))) | (with_reducible refine ext_setCell ?_ ?_; · (first | omega | (simp only [World.size_alloc, World.size_setCell, World.size_drew, World.heap_drewN]; omega) | (simp; omega))) | (refine ext_call (by assumption) ?_ ?_; · (first | omega | (simp only [World.size_alloc, World.size_setCell, World.size_drew, World.heap_drewN]; omega) | (simp; omega)))))) ?_
      simp only [List.take_succ_cons, List.take_zero, List.drop_succ_cons, List.drop_zero]
      iterate 5 (apply keep_yes; (· rfl); (· (intro w' hJ; (try obtain ⟨hc', hf'⟩ := bcell hJ); refine gives_of (by (go_simp; rfl)) rfl hJ)); simp only [Act.put, List.setIfInBounds_toArray, List.set_cons_zero, List.set_cons_succ])
      refine keep_nil ?_
      intro w1 hJ
      have hJs := hJ.size
      simp only [World.size_alloc] at hJs
      go_wp2_with (go_at_call 102; refine (number_yes C.g p _ h.ok hi).mono ?_; rintro e w' ⟨rfl, hb⟩)
      go_ret
      exact ⟨rfl, by (repeat (first | exact Below.refl _ _ | assumption | (with_reducible refine Below.drew ?_) | (with_reducible refine below_drewN' ?_ _) | (with_reducible refine ext_alloc ?_ ?_; · (first | omega | (simp only [World.size_alloc, World.size_setCell, World.size_drew, World.heap_drewN]; omega) | (simp; omega))) | (with_reducible refine ext_setCell ?_ ?_; · (first | omega | (simp only [World.size_alloc, World.size_setCell, World.size_drew, World.heap_drewN]; omega) | (simp; omega))) | (refine ext_call (by assumption) ?_ ?_; · (first | omega | (simp only [World.size_alloc, World.size_setCell, World.size_drew, World.heap_drewN]; omega) | (simp; omega)))))⟩
  · rw [ho] at c7
    have ha : C.asked p = 9 := by simp [Chip.asked, ho]
    rw [ha]; clear ha
    go_enter Tryz.func83, Tryz.ntmps83
    go_wp2
    go_ret
    exact ⟨rfl, by (repeat (first | exact Below.refl _ _ | assumption | (with_reducible refine Below.drew ?_) | (with_reducible refine below_drewN' ?_ _) | (with_reducible refine ext_alloc ?_ ?_; · (first | omega | (simp only [World.size_alloc, World.size_setCell, World.size_drew, World.heap_drewN]; omega) | (simp; omega))) | (with_reducible refine ext_setCell ?_ ?_; · (first | omega | (simp only [World.size_alloc, World.size_setCell, World.size_drew, World.heap_drewN]; omega) | (simp; omega))) | (refine ext_call (by assumption) ?_ ?_; · (first | omega | (simp only [World.size_alloc, World.size_setCell, World.size_drew, World.heap_drewN]; omega) | (simp; omega)))))⟩
end Go.Proofs.YthghhcnpbehaiaaGreat
