/- The chip: a page is programmed. -/
import Derived.Test.YthghhcnpbehaiaaGreatFa15
import Derived.Laws.CopyOwn

namespace Go.Proofs.YthghhcnpbehaiaaGreat
open Go.RowKit

theorem ChipAt.upd {w w' : World} {A : CA} {C : Chip} (h : ChipAt w A C) {m k : Nat} {b b' : Blk} (hb : C.bk[m]? = some b) (hk : A.bs[m]? = some k)
    (hc : w'.heap[A.c]? = w.heap[A.c]?) (hby : w'.heap[k]? = some (.cells (b'.by_.map u8).toArray 5 (0, 0)))
    (hrow : Row w' A.bl (m * 4) (b'.cells k)) (hoth : ∀ (j : Nat) (x : Blk) (n : Nat), j ≠ m → C.bk[j]? = some x → A.bs[j]? = some n → Row w' A.bl (j * 4) (x.cells n))
    (hsame : ∀ q, q < w.heap.size → q ≠ A.bl → q ≠ k → w'.heap[q]? = w.heap[q]?)
    (hl : b'.by_.length = b.by_.length) (hn : 0 ≤ b'.next ∧ b'.next ≤ C.g.P ∧ 0 ≤ b'.wear ∧ b'.wear < 4611686018427387904 ∧ 0 ≤ b'.done ∧ b'.done < 4611686018427387904) :
    ChipAt w' A { C with bk := C.bk.set m b' } := by
  have hkm : k ∈ A.bs := List.mem_of_getElem? hk
  have hm : m < C.bk.length := (List.getElem?_eq_some_iff.1 hb).1
  refine ⟨?_, ?_, h.fsl, h.fsn, by simp [h.len], by simpa using h.cap, ?_, h.ne1, h.ne2, h.ne3, h.nd, h.ok, by simpa using h.bn, ?_, h.opsb⟩
  · have := h.str.of_block hc
    simp only [Chip.cells, List.length_set]
    exact this
  · obtain ⟨a, cap, hv, hcp, hr | ⟨q, o, ha, hr⟩⟩ := h.fs
    · exact ⟨a, cap, hv, hcp, .inl hr⟩
    · refine ⟨a, cap, hv, hcp, ?_⟩
      by_cases hne : C.fs.flatMap Flt.cells = []
      · exact .inl hne
      · simp only [Value.slice.injEq] at hv
        have hq := h.fsn q o (hv.1.trans ha)
        exact .inr ⟨q, o, ha, hr.of_block (hsame q (hr.lt hne) (fun e => hq (.inr (.inl e))) (fun e => hq (.inr (.inr (e ▸ hkm)))))⟩
  · intro j x n hj hjn
    by_cases e : m = j
    · subst e
      simp only at hj
      rw [List.getElem?_set_self hm] at hj
      cases hj
      rw [hk] at hjn; cases hjn
      exact ⟨hrow, hby⟩
    · simp only at hj
      rw [List.getElem?_set_ne e] at hj
      have h1 := h.row j x n hj hjn
      refine ⟨hoth j x n (Ne.symm e) hj hjn, (hsame n (heap_lt h1.2) (fun e' => h.ne3 (e' ▸ List.mem_of_getElem? hjn)) (fun e' => ?_)).trans h1.2⟩
      subst e'
      exact e ((List.getElem?_inj (List.getElem?_eq_some_iff.1 hk).1 h.nd).1 (hk.trans hjn.symm))
  · intro j x hj
    by_cases e : m = j
    · subst e
      simp only at hj
      rw [List.getElem?_set_self hm] at hj
      cases hj
      exact ⟨by rw [hl]; exact (h.sz m b hb).1, hn⟩
    · simp only at hj
      rw [List.getElem?_set_ne e] at hj
      exact h.sz j x hj

/-- A block behind a page's program. -/
def Blk.prog (b : Blk) (pp y : Nat) (raw : List Int) : Blk := ⟨b.by_.take (pp * y) ++ (raw ++ b.by_.drop (pp * y + raw.length)), b.next + 1, b.wear, b.done + 1⟩
def Chip.prog (C : Chip) (p : Plc) (b : Blk) (raw : List Int) : Chip := { C with ops := C.ops + 1, bk := C.bk.set p.b.toNat (b.prog p.p.toNat (C.g.Y + 16).toNat raw) }

theorem ChipAt.progd {w : World} {A : CA} {C : Chip} (h : ChipAt w A C) {m k : Nat} {b : Blk} (hB : BlkAt w A C m b k) (pp y : Nat) (raw : List Int) (hl : pp * y + raw.length ≤ b.by_.length) (hn : b.next + 1 ≤ C.g.P) (hd : b.done + 1 < 4611686018427387904) :
    ChipAt (((w.setRow k ((b.prog pp y raw).by_.map u8).toArray).setCell ⟨A.bl, m * 4 + 1, none⟩ (i64 (b.next + 1))).setCell ⟨A.bl, m * 4 + 3, none⟩ (i64 (b.done + 1))) A { C with bk := C.bk.set m (b.prog pp y raw) } := by
  have hkm : k ∈ A.bs := List.mem_of_getElem? hB.hk
  have h1 := h.row m b k hB.hb hB.hk
  have hkb : k ≠ A.bl := fun e => h.ne3 (e ▸ hkm)
  have hkc : k ≠ A.c := fun e => h.ne2 (e ▸ hkm)
  have hsz := h.sz m b hB.hb
  have hs : ∀ q, q ≠ A.bl → (((w.setRow k ((b.prog pp y raw).by_.map u8).toArray).setCell ⟨A.bl, m * 4 + 1, none⟩ (i64 (b.next + 1))).setCell ⟨A.bl, m * 4 + 3, none⟩ (i64 (b.done + 1))).heap[q]? = (w.setRow k ((b.prog pp y raw).by_.map u8).toArray).heap[q]? := fun q hq => by
    rw [Below.heap_setCell _ _ _ _ (by exact hq), Below.heap_setCell _ _ _ _ (by exact hq)]
  have hlen : (b.prog pp y raw).by_.length = b.by_.length := by
    simp only [Blk.prog, List.length_append, List.length_take, List.length_drop]; omega
  have r0 : ∀ (j : Nat) (x : Blk) (n : Nat), C.bk[j]? = some x → A.bs[j]? = some n → Row (w.setRow k ((b.prog pp y raw).by_.map u8).toArray) A.bl (j * 4) (x.cells n) := fun j x n hj hn =>
    (h.row j x n hj hn).1.of_block (setRow_other w k _ _ (Ne.symm hkb))
  refine h.upd hB.hb hB.hk ?_ ?_ ?_ ?_ ?_ hlen ⟨by simp only [Blk.prog]; omega, by simpa [Blk.prog] using hn, by simp only [Blk.prog]; omega, by simp only [Blk.prog]; omega, by simp only [Blk.prog]; omega, by simpa [Blk.prog] using hd⟩
  · rw [hs _ h.ne1, setRow_other w k _ _ (Ne.symm hkc)]
  · rw [hs _ hkb]; exact setRow_heap w k _ _ _ _ h1.2
  · have r1 := ((r0 m b k hB.hb hB.hk).setCell 1 (i64 (b.next + 1))).setCell 3 (i64 (b.done + 1))
    have e : (((b.cells k).set 1 (i64 (b.next + 1))).set 3 (i64 (b.done + 1))) = (b.prog pp y raw).cells k := by
      simp only [Blk.cells, hlen]; rfl
    rw [e] at r1; exact r1
  · intro j x n hj hx hn
    have hd : j < m ∨ m < j := by omega
    exact ((r0 j x n hx hn).setCell_off (by simp; omega) _).setCell_off (by simp; omega) _
  · intro q hq h2 h3
    rw [hs q h2, setRow_other w k q _ h3]
end Go.Proofs.YthghhcnpbehaiaaGreat

/- The chip: Program, walked. -/
namespace Go.Proofs.YthghhcnpbehaiaaGreat
open Go.RowKit

theorem add_addr (b o j : Nat) : (⟨b, o, none⟩ : Addr).add j = ⟨b, o + j, none⟩ := by unfold Addr.add; split <;> simp [*]

theorem Turns.setRow {M : Nat → Prop} {a w : World} (h : Turns M a w) {g : Nat} (hg : M g ∨ a.heap.size ≤ g) (cs : Array Value) : Turns M a (w.setRow g cs) :=
  ⟨h.os, h.tape, h.output, by simpa using h.size, fun k hk hm => (setRow_other w g k cs (by rintro rfl; rcases hg with hg | hg; exact hm hg; omega)).trans (h.block k hk hm)⟩

theorem BlkAt.mk' {w w' : World} {A : CA} {C C' : Chip} {m k : Nat} {b : Blk} (hB : BlkAt w A C m b k) (h : ChipAt w' A C') (hb : C'.bk = C.bk := by rfl) : BlkAt w' A C' m b k := by
  have hrow := (h.row m b k (by rw [hb]; exact hB.hb) hB.hk).1
  exact ⟨by rw [hb]; exact hB.lt, by rw [hb]; exact hB.hb, hB.hk, hrow.cell 0 rfl, hrow.cell 1 rfl, hrow.cell 2 rfl, hrow.cell 3 rfl⟩

set_option maxHeartbeats 2000000 in
set_option maxRecDepth 100000 in
theorem program197 {w : World} {A : CA} {C : Chip} (h : ChipAt w A C) (p : Plc) (b : Blk) (hp : C.g.isB p = true) (hbk : C.at p.b = some b) (hoff : C.off = false) (ht : C.turn = 0) (ho : C.ops < 4611686018427387903)
    (hnf : failsB C.fs p.b b.done = false) (hnx : p.p = b.next) (hdn : b.done + 1 < 4611686018427387904) (vb vo cap : Nat) (raw : List Int) (hraw : Row w vb vo (raw.map u8)) (hvb : ¬ A.foot vb) (hrl : (raw.length : Int) = C.g.Y + 16) :
    Calls Tryz.prog 197 #[ptr A.c, .agg #[i64 p.b, i64 p.p], .slice (some ⟨vb, vo, none⟩) raw.length cap] w fun e w' => e = .returned (i64 0) ∧ ChipAt w' A (C.prog p b raw) ∧ Turns A.foot w w' := by
  have ha : C.asked p = 0 := by simp [Chip.asked, hoff, hp]
  have HA := Lib.hid ha; clear ha
  have l1 : A.c < w.heap.size := h.flt (.inl rfl)
  have hnfo : ¬ A.foot w.heap.size := fun hf => by have := h.flt hf; omega
  have hgo := (Geo.ok_iff _).1 h.ok
  have hY : 24 ≤ C.g.Y ∧ C.g.Y ≤ 64 := ⟨hgo.y1, hgo.y2⟩
  have hvlt : vb < w.heap.size := hraw.lt (by intro e; have : raw = [] := List.map_eq_nil_iff.1 e; subst this; simp at hrl; omega)
  obtain ⟨q1, q2, q3, q4, q5, q6, q7⟩ := num_bounds h.ok hp
  have hnP : b.next + 1 ≤ C.g.P := by omega
  have hnn : 0 ≤ b.next := by omega
  have hdn0 := (h.sz _ b (Chip.at_some hbk).2.2).2.2.2.2.2.1
  obtain ⟨m, k, hm, hB⟩ := h.blk hbk
  have hmlt : m < C.bk.length := hB.lt
  have im0 : (0 : Int) ≤ (m : Int) := by omega
  have im1 : (m : Int) < (C.bk.length : Int) := by omega
  obtain ⟨pb, pq⟩ := p
  simp only at hm
  subst hm
  have htest2 : ((raw.length : Int) != C.g.Y + 16) = false := by simpa using hrl
  have hnx0 : (pq != b.next) = false := by simpa using hnx
  have hPa : C.g.P ≤ 8 := hgo.p2
  clear hgo
  have HRL := Lib.hid hrl
  have HNX := Lib.hid hnx
  have HNF := Lib.hid hnf
  have HB := Lib.hid hB
  clear hrl hnx hnf hB
  go_enter Tryz.func197, Tryz.ntmps197
  go_wp2_with fail
  refine (asked83 (h.below (by (repeat (first | exact Below.refl _ _ | assumption | (with_reducible refine Below.drew ?_) | (with_reducible refine below_drewN' ?_ _) | (with_reducible refine ext_alloc ?_ ?_; · (first | omega | (simp only [World.size_alloc, World.size_setCell, World.size_drew, World.heap_drewN]; omega) | (simp; omega))) | (with_reducible refine ext_setCell ?_ ?_; · (first | omega | (simp only [World.size_alloc, World.size_setCell, World.size_drew, World.heap_drewN]; omega) | (simp; omega))) | (refine ext_call (by assumption) ?_ ?_; · (first | omega | (simp only [World.size_alloc, World.size_setCell, World.size_drew, World.heap_drewN]; omega) | (simp; omega))))))) ⟨m, pq⟩).mono ?_
  rw [HA.out]
  rintro e w1 ⟨rfl, hb1⟩
  have hw1 : Below w.heap.size w w1 := by (repeat (first | exact Below.refl _ _ | assumption | (with_reducible refine Below.drew ?_) | (with_reducible refine below_drewN' ?_ _) | (with_reducible refine ext_alloc ?_ ?_; · (first | omega | (simp only [World.size_alloc, World.size_setCell, World.size_drew, World.heap_drewN]; omega) | (simp; omega))) | (with_reducible refine ext_setCell ?_ ?_; · (first | omega | (simp only [World.size_alloc, World.size_setCell, World.size_drew, World.heap_drewN]; omega) | (simp; omega))) | (refine ext_call (by assumption) ?_ ?_; · (first | omega | (simp only [World.size_alloc, World.size_setCell, World.size_drew, World.heap_drewN]; omega) | (simp; omega)))))
  have hC1 : ChipAt w1 A C := h.below hw1
  have z1 : w.heap.size < w1.heap.size := by have := hb1.size; simp at this; omega
  have e0 : w1.cell? ⟨w.heap.size, 0, none⟩ = some (i64 m) := keepc hb1 (by simp)
  have e1 : w1.cell? ⟨w.heap.size, 1, none⟩ = some (i64 pq) := keepc hb1 (by simp)
  have c0 := hC1.str.cell0 0 rfl
  have c1 := hC1.str.cell0 1 rfl
  have c2 := hC1.str.cell0 2 rfl
  have c3 := hC1.str.cell0 3 rfl
  have c4 := hC1.str.cell0 4 rfl
  go_wp2_with fail
  refine (raw58 C.g _ h.ok).mono ?_
  rintro e w2 ⟨rfl, hb2⟩
  have hC2 : ChipAt w2 A C := hC1.below hb2
  have z2 := hb2.size
  replace e0 := keepc hb2 e0
  replace e1 := keepc hb2 e1
  clear c0 c1 c2 c3 c4
  have c6 := hC2.str.cell0 6 rfl
  have lA : A.c < w2.heap.size := by omega
  have lbx : w.heap.size < w2.heap.size := by omega
  go_wp2_with fail
  refine wp_region_keep 6 (fun wJ => Below (w2).heap.size (w2) wJ) (by kernel_rfl) (by kernel_rfl) (by (repeat (first | exact Below.refl _ _ | assumption | (with_reducible refine Below.drew ?_) | (with_reducible refine below_drewN' ?_ _) | (with_reducible refine ext_alloc ?_ ?_; · (first | omega | (simp only [World.size_alloc, World.size_setCell, World.size_drew, World.heap_drewN]; omega) | (simp; omega))) | (with_reducible refine ext_setCell ?_ ?_; · (first | omega | (simp only [World.size_alloc, World.size_setCell, World.size_drew, World.heap_drewN]; omega) | (simp; omega))) | (refine ext_call (by assumption) ?_ ?_; · (first | omega | (simp only [World.size_alloc, World.size_setCell, World.size_drew, World.heap_drewN]; omega) | (simp; omega)))))) ?_
  simp only [List.take_succ_cons, List.take_zero, List.drop_succ_cons, List.drop_zero]
  iterate 6 (apply keep_yes; (· rfl); (· (intro w' hJ; (try obtain ⟨hc', hf'⟩ := bcell hJ); refine gives_of (by (go_simp; rfl)) rfl hJ)); simp only [Act.put, List.setIfInBounds_toArray, List.set_cons_zero, List.set_cons_succ])
  refine keep_nil ?_
  intro w3 hb3
  have z3 := hb3.size
  clear c6
  replace e0 := keepc hb3 e0
  replace e1 := keepc hb3 e1
  go_wp2_with fail
  refine (begin84 (hC2.below hb3) ht ho).mono ?_
  rintro e w4 ⟨rfl, hC4, ht4⟩
  have z4 := ht4.size
  replace e0 := (ht4.cell (p := ⟨w.heap.size, 0, none⟩) (by show w.heap.size < _; omega) hnfo).trans e0
  replace e1 := (ht4.cell (p := ⟨w.heap.size, 1, none⟩) (by show w.heap.size < _; omega) hnfo).trans e1
  have HC4 := Lib.hid hC4; clear hC4
  go_wp2_with fail
  refine (failed78 HC4.out m b hbk).mono ?_
  rw [show failsB _ m b.done = false from HNF.out]
  rintro e w5 ⟨rfl, hb5⟩
  have z5 := hb5.size
  have hC5 := HC4.out.below hb5
  replace e0 := keepc hb5 e0
  replace e1 := keepc hb5 e1
  have d1 : w5.cell? ⟨A.bl, m * 4 + 1, none⟩ = some (i64 b.next) := (hC5.row m b k HB.out.hb HB.out.hk).1.cell 1 rfl
  have lbx5 : w.heap.size < w5.heap.size := by omega
  have lbl5 : A.bl < w5.heap.size := hC5.flt (.inr (.inl rfl))
  have HC5 := Lib.hid hC5; clear hC5
  go_wp2_with fail
  refine wp_region_keep 6 (fun wJ => Below (w5).heap.size (w5) wJ) (by kernel_rfl) (by kernel_rfl) (by (repeat (first | exact Below.refl _ _ | assumption | (with_reducible refine Below.drew ?_) | (with_reducible refine below_drewN' ?_ _) | (with_reducible refine ext_alloc ?_ ?_; · (first | omega | (simp only [World.size_alloc, World.size_setCell, World.size_drew, World.heap_drewN]; omega) | (simp; omega))) | (with_reducible refine ext_setCell ?_ ?_; · (first | omega | (simp only [World.size_alloc, World.size_setCell, World.size_drew, World.heap_drewN]; omega) | (simp; omega))) | (refine ext_call (by assumption) ?_ ?_; · (first | omega | (simp only [World.size_alloc, World.size_setCell, World.size_drew, World.heap_drewN]; omega) | (simp; omega)))))) ?_
  simp only [List.take_succ_cons, List.take_zero, List.drop_succ_cons, List.drop_zero]
  iterate 6 (apply keep_yes; (· rfl); (· (intro w' hJ; (try obtain ⟨hc', hf'⟩ := bcell hJ); refine gives_of (by (go_simp; rfl)) rfl hJ)); simp only [Act.put, List.setIfInBounds_toArray, List.set_cons_zero, List.set_cons_succ])
  refine keep_nil ?_
  intro w6 hb6
  have z6 := hb6.size
  clear d1
  replace e0 := keepc hb6 e0
  replace e1 := keepc hb6 e1
  go_wp2_with fail
  refine (page85 (HC5.out.below hb6) ⟨m, pq⟩ b hp hbk).mono ?_
  rintro e w7 ⟨⟨m', k', pp, y, cap', em, epp, ey, hB7, rfl, hcap, hlen⟩, hb7⟩
  have em' : m' = m := by have : (m : Int) = m' := em; omega
  subst em'
  have hk' : k' = k := by have := hB7.hk.symm.trans HB.out.hk; simpa using this
  subst hk'
  have hC7 := (HC5.out.below hb6).below hb7
  have z7 := hb7.size
  have hry : raw.length = y := by have h1 := HRL.out; have h2 : C.g.Y + 16 = (y : Int) := ey; omega
  have hraw7 : Row w7 vb vo (raw.map u8) := by
    have r1 := ((((hraw.below hw1).below hb2).below hb3).turns ht4 hvb)
    exact ((r1.below hb5).below hb6).below hb7
  have hsrc : ∀ j v, (raw.map u8)[j]? = some v → w7.cell? ((⟨vb, vo, none⟩ : Addr).add j) = some v := fun j v hj => by rw [add_addr]; exact (hraw7 j v hj).1
  have hblk7 := (hC7.row m' b k' HB.out.hb HB.out.hk).2
  have hmin : (raw.map u8).length = Nat.min raw.length y := by rw [List.length_map, ← hry]; exact (Nat.min_self _).symm
  have hfit : pp * y + (raw.map u8).length ≤ (b.by_.map u8).toArray.size := by simp only [List.length_map, List.size_toArray]; omega
  have hone : ∀ v ∈ raw.map u8, v.oneCell' = true := by intro u hu; obtain ⟨x, _, rfl⟩ := List.mem_map.1 hu; rfl
  have hcont : ((b.by_.map u8).toArray.toList.take (pp * y) ++ (raw.map u8 ++ (b.by_.map u8).toArray.toList.drop (pp * y + (raw.map u8).length))).toArray = ((b.prog pp y raw).by_.map u8).toArray := by
    simp [Blk.prog, List.map_take, List.map_drop]
  obtain ⟨w8, hW⟩ : ∃ w8, w8 = w7.setRow k' ((b.prog pp y raw).by_.map u8).toArray := ⟨_, rfl⟩
  have hkbl : A.bl ≠ k' := fun e => hC7.ne3 (e ▸ List.mem_of_getElem? HB.out.hk)
  have hrow7 := (hC7.row m' b k' HB.out.hb HB.out.hk).1
  have d1 : w8.cell? ⟨A.bl, m' * 4 + 1, none⟩ = some (i64 b.next) := by rw [hW, cell_setRow_other _ _ _ _ (by exact hkbl)]; exact hrow7.cell 1 rfl
  have d3 : w8.cell? ⟨A.bl, m' * 4 + 3, none⟩ = some (i64 b.done) := by rw [hW, cell_setRow_other _ _ _ _ (by exact hkbl)]; exact hrow7.cell 3 rfl
  have hr8 : Row w8 A.bl (m' * 4) (b.cells k') := hrow7.of_block (by rw [hW, setRow_other _ _ _ _ hkbl])
  have f1 : w8.frozen? ⟨A.bl, m' * 4 + 1, none⟩ = false := hr8.free 1 rfl
  have f3 : w8.frozen? ⟨A.bl, m' * 4 + 3, none⟩ = false := hr8.free 3 rfl
  have hfin := hC7.progd (HB.out.mk' hC7) pp y raw (by omega) hnP hdn
  rw [← hW] at hfin
  have hp8 : C.prog ⟨m', pq⟩ b raw = { C with ops := C.ops + 1, bk := C.bk.set m' (b.prog pp y raw) } := by
    have t1 : pq.toNat = pp := by have : pq = (pp : Int) := epp; omega
    have t2 : (C.g.Y + 16).toNat = y := by have : C.g.Y + 16 = (y : Int) := ey; omega
    simp only [Chip.prog, t1, t2, Int.toNat_natCast]
  have hT : Turns A.foot w w8 := by
    rw [hW]
    exact ((((((Turns.of_below hw1).trans (Turns.of_below hb2)).trans (Turns.of_below hb3)).trans ht4).trans (Turns.of_below hb5)).trans ((Turns.of_below hb6).trans (Turns.of_below hb7))).setRow (.inl (.inr (.inr (List.mem_of_getElem? HB.out.hk)))) _
  have HFIN := Lib.hid hfin
  have HP8 := Lib.hid hp8
  have HCONT := Lib.hid hcont
  have HW := Lib.hid hW
  have HKBL := Lib.hid hkbl
  have HROW := Lib.hid hrow7
  have HONE := Lib.hid hone
  have HSRC := Lib.hid hsrc
  have HMIN := Lib.hid hmin
  clear hfin hp8 hcont hkbl hrow7 hone hsrc hmin hW em epp ey hry hB7 e0 e1
  go_wp2_with (with_reducible refine wpList_copy_own rfl _ _ 37 37 rfl 5 Tryz.underlying37 (by kernel_rfl) k' (pp * y) y cap' ⟨vb, vo, none⟩ raw.length cap rfl rfl (b.by_.map u8).toArray 5 hblk7 (raw.map u8) HMIN.out HSRC.out hfit HONE.out ?_; rw [HCONT.out, ← HW.out])
  go_ret
  refine ⟨rfl, ?_, (hT.setCell (.inl (.inr (.inl rfl))) _).setCell (.inl (.inr (.inl rfl))) _⟩
  rw [HP8.out]
  exact HFIN.out
end Go.Proofs.YthghhcnpbehaiaaGreat

/- The chip: Erase, walked. -/
namespace Go.Proofs.YthghhcnpbehaiaaGreat
open Go.RowKit

/-- A block behind an erase. -/
def Blk.erased (b : Blk) : Blk := ⟨List.replicate b.by_.length 255, 0, b.wear + 1, b.done + 1⟩
def Chip.erase (C : Chip) (n : Int) (b : Blk) : Chip := { C with ops := C.ops + 1, bk := C.bk.set n.toNat b.erased }

theorem heap_setCell {w : World} {k : Nat} {arr : Array Value} {t : TypeId} (h : w.heap[k]? = some (.cells arr t (0, 0))) (j : Nat) (v : Value) : (w.setCell ⟨k, j, none⟩ v).heap[k]? = some (.cells (arr.setIfInBounds j v) t (0, 0)) := by
  simp only [World.setCell, Array.getElem?_modify, if_true, h, Option.map_some, Option.isSome_none, Bool.false_eq_true, if_false]

theorem rep_set (l : List Int) (j : Nat) (hj : j < l.length) : (List.replicate j 255 ++ l.drop j).set j 255 = List.replicate (j + 1) 255 ++ l.drop (j + 1) := by
  rw [List.set_append_right _ _ (by simp)]
  rw [List.length_replicate, Nat.sub_self, List.drop_eq_getElem_cons hj, List.set_cons_zero, List.replicate_succ', List.append_assoc]
  rfl

theorem ChipAt.erased {w w' : World} {A : CA} {C : Chip} (h : ChipAt w A C) {m k : Nat} {b : Blk} (hB : BlkAt w A C m b k) (ht : Turns (· = k) w w') (hk : w'.heap[k]? = some (.cells (b.erased.by_.map u8).toArray 5 (0, 0))) (hd : b.done + 1 < 4611686018427387904) (hw : b.wear + 1 < 4611686018427387904) :
    ChipAt (((w'.setCell ⟨A.bl, m * 4 + 1, none⟩ (i64 0)).setCell ⟨A.bl, m * 4 + 2, none⟩ (i64 (b.wear + 1))).setCell ⟨A.bl, m * 4 + 3, none⟩ (i64 (b.done + 1))) A { C with bk := C.bk.set m b.erased } := by
  have hkm : k ∈ A.bs := List.mem_of_getElem? hB.hk
  have hkb : k ≠ A.bl := fun e => h.ne3 (e ▸ hkm)
  have hkc : k ≠ A.c := fun e => h.ne2 (e ▸ hkm)
  have hsz := h.sz m b hB.hb
  have hs : ∀ q, q ≠ A.bl → (((w'.setCell ⟨A.bl, m * 4 + 1, none⟩ (i64 0)).setCell ⟨A.bl, m * 4 + 2, none⟩ (i64 (b.wear + 1))).setCell ⟨A.bl, m * 4 + 3, none⟩ (i64 (b.done + 1))).heap[q]? = w'.heap[q]? := fun q hq => by
    rw [Below.heap_setCell _ _ _ _ (by exact hq), Below.heap_setCell _ _ _ _ (by exact hq), Below.heap_setCell _ _ _ _ (by exact hq)]
  have hlen : b.erased.by_.length = b.by_.length := by simp [Blk.erased]
  have r0 : ∀ (j : Nat) (x : Blk) (n : Nat), C.bk[j]? = some x → A.bs[j]? = some n → Row w' A.bl (j * 4) (x.cells n) := fun j x n hj hn =>
    (h.row j x n hj hn).1.turns ht (Ne.symm hkb)
  refine h.upd hB.hb hB.hk ?_ ?_ ?_ ?_ ?_ hlen ⟨by simp [Blk.erased], by simp only [Blk.erased]; omega, by simp only [Blk.erased]; omega, by simpa [Blk.erased] using hw, by simp only [Blk.erased]; omega, by simpa [Blk.erased] using hd⟩
  · rw [hs _ h.ne1]; exact ht.block _ (h.flt (.inl rfl)) (Ne.symm hkc)
  · rw [hs _ hkb]; exact hk
  · have r1 := (((r0 m b k hB.hb hB.hk).setCell 1 (i64 0)).setCell 2 (i64 (b.wear + 1))).setCell 3 (i64 (b.done + 1))
    have e : ((((b.cells k).set 1 (i64 0)).set 2 (i64 (b.wear + 1))).set 3 (i64 (b.done + 1))) = b.erased.cells k := by
      simp only [Blk.cells, hlen]; rfl
    rw [e] at r1; exact r1
  · intro j x n hj hx hn
    have hd : j < m ∨ m < j := by omega
    exact (((r0 j x n hx hn).setCell_off (by simp; omega) _).setCell_off (by simp; omega) _).setCell_off (by simp; omega) _
  · intro q hq h2 h3
    rw [hs q h2]; exact ht.block q hq h3

set_option maxHeartbeats 2000000 in
set_option maxRecDepth 100000 in
theorem erase156 {w : World} {A : CA} {C : Chip} (h : ChipAt w A C) (n : Int) (b : Blk) (hbk : C.at n = some b) (hoff : C.off = false) (ht : C.turn = 0) (ho : C.ops < 4611686018427387903)
    (hnf : failsB C.fs n b.done = false) (hdn : b.done + 1 < 4611686018427387904) (hwn : b.wear + 1 < 4611686018427387904) :
    Calls Tryz.prog 156 #[ptr A.c, i64 n] w fun e w' => e = .returned (i64 0) ∧ ChipAt w' A (C.erase n b) ∧ Turns A.foot w w' := by
  obtain ⟨n0, n1, n2⟩ := Chip.at_some hbk
  have hgo := (Geo.ok_iff _).1 h.ok
  have hp : C.g.isB ⟨n, 0⟩ = true := by
    have := h.bn; have := hgo.p1
    simp only [Geo.isB, Bool.and_eq_true, inB_iff]; omega
  have ha : C.asked ⟨n, 0⟩ = 0 := by simp [Chip.asked, hoff, hp]
  have HA := Lib.hid ha; clear ha
  obtain ⟨m, k, hm, hB⟩ := h.blk hbk
  have hsz := h.sz m b hB.hb
  obtain ⟨L, hL⟩ : ∃ L, L = b.by_.length := ⟨_, rfl⟩
  have hL640 : L ≤ 640 := by
    have e1 := hsz.1
    have e2 : C.g.P * (C.g.Y + 16) ≤ 8 * 80 := Int.mul_le_mul hgo.p2 (by have := hgo.y2; omega) (by have := hgo.y1; omega) (by omega)
    omega
  have hdn0 := hsz.2.2.2.2.2.1
  have hwn0 := hsz.2.2.2.1
  subst hm
  have hmlt : m < C.bk.length := hB.lt
  have im0 : (0 : Int) ≤ (m : Int) := by omega
  have im1 : (m : Int) < (C.bk.length : Int) := by omega
  have HNF := Lib.hid hnf
  have HB := Lib.hid hB
  clear hnf hB hsz hgo n2
  go_enter Tryz.func156, Tryz.ntmps156
  go_wp2_with fail
  refine (asked83 h ⟨m, 0⟩).mono ?_
  rw [HA.out]
  rintro e w1 ⟨rfl, hb1⟩
  have hC1 : ChipAt w1 A C := h.below hb1
  have z1 := hb1.size
  go_wp2_with fail
  refine (begin84 hC1 ht ho).mono ?_
  rintro e w2 ⟨rfl, hC2, ht2⟩
  have z2 := ht2.size
  have HC2 := Lib.hid hC2; clear hC2
  go_wp2_with fail
  refine (failed78 HC2.out m b hbk).mono ?_
  rw [show failsB _ m b.done = false from HNF.out]
  rintro e w3 ⟨rfl, hb3⟩
  have z3 := hb3.size
  have hC3 := HC2.out.below hb3
  have hrow3 := (hC3.row m b k HB.out.hb HB.out.hk).1
  have hblk3 := (hC3.row m b k HB.out.hb HB.out.hk).2
  have d0 : w3.cell? ⟨A.bl, m * 4, none⟩ = some (.slice (some ⟨k, 0, none⟩) L L) := by rw [hL]; exact hrow3.cell 0 rfl
  have c6 := hC3.str.cell0 6 rfl
  have hkbl : A.bl ≠ k := fun e => hC3.ne3 (e ▸ List.mem_of_getElem? HB.out.hk)
  have lbl : A.bl < w3.heap.size := hC3.flt (.inr (.inl rfl))
  have HC3 := Lib.hid hC3
  have HROW := Lib.hid hrow3
  have HBLK := Lib.hid hblk3
  have HL := Lib.hid hL
  clear hC3 hrow3 hblk3 hL
  go_wp2_with fail
  go_loopw [41] (fun i wr => ∃ j : Nat, j ≤ L ∧ i = .int .i64 j ∧ Turns (· = k) w3 wr ∧ Hid (wr.heap[k]? = some (.cells ((List.replicate j 255 ++ b.by_.drop j).map u8).toArray 5 (0, 0)))) (fun i _ => L - (RowKit.intOf i).toNat)
  case atStart => exact ⟨0, Nat.zero_le _, rfl, Turns.refl _ _, HBLK.out⟩
  case round =>
    obtain ⟨j, hj, rfl, htr, hh⟩ := hrel
    have zr := htr.size
    have d0r : wr.cell? ⟨A.bl, m * 4, none⟩ = some (.slice (some ⟨k, 0, none⟩) L L) := (htr.cell (p := ⟨A.bl, m * 4, none⟩) lbl hkbl).trans d0
    by_cases hlt : j < L
    · have hx : ∃ x, ((List.replicate j 255 ++ b.by_.drop j).map u8)[j]? = some x := ⟨_, List.getElem?_eq_getElem (by simp; have := HL.out; omega)⟩
      obtain ⟨x, hx⟩ := hx
      have hr := row_of_heap hh.out
      have cx : wr.cell? ⟨k, j, none⟩ = some x := hr.cell0 j hx
      have fx : wr.frozen? ⟨k, j, none⟩ = false := hr.free0 j hx
      have ij0 : (0 : Int) ≤ (j : Int) := by omega
      have ij1 : (j : Int) < (L : Int) := by omega
      have HX := Lib.hid hx
      have HR := Lib.hid hr
      clear hx hr
      go_wp2
      refine ⟨⟨j + 1, by omega, by go_num, htr.setCell (.inl rfl) _, ?_⟩, by simp [RowKit.intOf]; omega⟩
      have e := heap_setCell hh.out j (u8 255)
      rw [List.setIfInBounds_toArray, show u8 255 = u8 255 from rfl, ← List.map_set, rep_set _ _ (by have := HL.out; omega)] at e
      exact e
    · have e : j = L := by omega
      subst e
      have hfin : wr.heap[k]? = some (.cells (b.erased.by_.map u8).toArray 5 (0, 0)) := by
        have := hh.out
        rw [List.drop_of_length_le (by have := HL.out; omega), List.append_nil] at this
        rw [this, HL.out]; rfl
      have hC3 := HC3.out
      have hfc := hC3.erased (HB.out.mk' hC3) htr hfin hdn hwn
      have hrowr := HROW.out.turns htr hkbl
      have d1 : wr.cell? ⟨A.bl, m * 4 + 1, none⟩ = some (i64 b.next) := hrowr.cell 1 rfl
      have d2 : wr.cell? ⟨A.bl, m * 4 + 2, none⟩ = some (i64 b.wear) := hrowr.cell 2 rfl
      have d3 : wr.cell? ⟨A.bl, m * 4 + 3, none⟩ = some (i64 b.done) := hrowr.cell 3 rfl
      have f1 : wr.frozen? ⟨A.bl, m * 4 + 1, none⟩ = false := hrowr.free 1 rfl
      have f2 : wr.frozen? ⟨A.bl, m * 4 + 2, none⟩ = false := hrowr.free 2 rfl
      have f3 : wr.frozen? ⟨A.bl, m * 4 + 3, none⟩ = false := hrowr.free 3 rfl
      have hT : Turns A.foot w wr := ((((Turns.of_below hb1).trans ht2).trans (Turns.of_below hb3)).trans (htr.mono (fun q _ hq => .inr (.inr (by rw [hq]; exact List.mem_of_getElem? HB.out.hk)))))
      have HFC := Lib.hid hfc
      clear hfc hC3 hrowr hfin
      go_wp2
      go_ret
      refine ⟨rfl, ?_, ((hT.setCell (.inl (.inr (.inl rfl))) _).setCell (.inl (.inr (.inl rfl))) _).setCell (.inl (.inr (.inl rfl))) _⟩
      exact HFC.out
end Go.Proofs.YthghhcnpbehaiaaGreat
