/- The chip: an operation begins; a page's bytes; reading. -/
import Derived.Test.YthghhcnpbehaiaaGreatFa14
import Derived.Test.YthghhcnpbehaiaaGreatFa03

namespace Go.Proofs.YthghhcnpbehaiaaGreat
open Go.RowKit

/-- A store into a cell of the chip's own struct. -/
theorem ChipAt.set {w : World} {A : CA} {C C' : Chip} (h : ChipAt w A C) (i : Nat) (u : Value) (hc : C'.cells A = (C.cells A).set i u) (hg : C'.g = C.g) (hf : C'.fs = C.fs) (hb : C'.bk = C.bk)
    (ho : 0 ≤ C'.ops ∧ C'.ops < 4611686018427387904) : ChipAt (w.setCell ⟨A.c, i, none⟩ u) A C' := by
  have ne : ∀ k, k ≠ A.c → (w.setCell ⟨A.c, i, none⟩ u).heap[k]? = w.heap[k]? := fun k hk => Below.heap_setCell _ _ _ _ (by exact hk)
  refine ⟨?_, ?_, by rw [hf]; exact h.fsl, h.fsn, by rw [hb]; exact h.len, by rw [hb]; exact h.cap, ?_, h.ne1, h.ne2, h.ne3, h.nd, by rw [hg]; exact h.ok, by rw [hb, hg]; exact h.bn, by rw [hb, hg]; exact h.sz, ho⟩
  · rw [hc]
    have := h.str.setCell i u
    rwa [Nat.zero_add] at this
  · rw [hf]
    obtain ⟨a, cap, hv, hcp, hr | ⟨b, o, ha, hr⟩⟩ := h.fs
    · exact ⟨a, cap, hv, hcp, .inl hr⟩
    · refine ⟨a, cap, hv, hcp, .inr ⟨b, o, ha, hr.of_block (ne b ?_)⟩⟩
      simp only [Value.slice.injEq] at hv
      intro e
      exact h.fsn b o (hv.1.trans ha) (.inl e)
  · rw [hb]
    intro j b n hj hn
    exact ⟨(h.row j b n hj hn).1.of_block (ne _ (Ne.symm h.ne1)), (ne _ (fun e => h.ne2 (e ▸ List.mem_of_getElem? hn))).trans (h.row j b n hj hn).2⟩

theorem ChipAt.drew {w : World} {A : CA} {C : Chip} (h : ChipAt w A C) : ChipAt w.drew A C := h.below ((Below.refl _ _).drew)

set_option maxHeartbeats 2000000 in
set_option maxRecDepth 100000 in
theorem begin84 {w : World} {A : CA} {C : Chip} (h : ChipAt w A C) (ht : C.turn = 0) (ho : C.ops < 4611686018427387903) :
    Calls Tryz.prog 84 #[ptr A.c] w fun e w' => e = .returned (.bool false) ∧ ChipAt w' A { C with ops := C.ops + 1 } ∧ Turns A.foot w w' := by
  have c8 := h.str.cell0 8 rfl
  have c13 := h.str.cell0 13 rfl
  have f8 := h.str.free0 8 rfl
  rw [ht] at c13
  obtain ⟨o1, o2⟩ := h.opsb
  have HC : Hid (ChipAt (w.setCell ⟨A.c, 8, none⟩ (i64 (C.ops + 1))) A { C with ops := C.ops + 1 }) := h.set 8 _ rfl rfl rfl rfl ⟨by show 0 ≤ C.ops + 1; omega, by show C.ops + 1 < _; omega⟩
  clear ht
  go_enter Tryz.func84, Tryz.ntmps84
  go_wp2
  go_quiet (fail)
  go_wp2
  go_ret
  exact ⟨rfl, HC.out.drewN _, ((Turns.refl _ _).setCell (.inl (.inl rfl)) _).drewN _⟩

theorem nat_mul_lt {p P y : Nat} (h : p < P) : p * y + y ≤ P * y := by
  have : (p + 1) * y ≤ P * y := Nat.mul_le_mul_right y h
  rwa [Nat.add_mul, Nat.one_mul] at this

theorem page_arith (lo pp y PP : Nat) (hlo : lo = pp * y) (hml : pp * y + y ≤ PP * y) (hup : PP * y ≤ 8 * 80) :
    lo + y ≤ PP * y ∧ (lo : Int) + (y : Int) ≤ ((PP * y : Nat) : Int) ∧ (0 : Int) ≤ (lo : Int) + (y : Int) ∧ (lo : Int) ≤ (lo : Int) + (y : Int) ∧ Hid (((lo : Int) + (y : Int)).toNat = lo + y) ∧
    Hid (IntKind.i64.wrap ((pp : Int) * (y : Int)) = (lo : Int)) ∧ Hid (pp ≤ 640 → IntKind.i64.wrap ((pp : Int) + 1) = ((pp + 1 : Nat) : Int)) ∧ Hid (IntKind.i64.wrap (((pp : Int) + 1) * (y : Int)) = (lo : Int) + (y : Int)) := by
  have e : ((pp : Int) + 1) * (y : Int) = (lo : Int) + (y : Int) := by rw [hlo, Int.add_mul, Int.one_mul, Int.natCast_mul]
  have e2 : ((pp : Int) * (y : Int)) = (lo : Int) := by rw [hlo, Int.natCast_mul]
  rw [← hlo] at hml
  obtain ⟨z, hz⟩ : ∃ z, z = PP * y := ⟨_, rfl⟩
  rw [← hz] at hml hup ⊢
  clear hlo hz
  refine ⟨hml, by omega, by omega, by omega, by unfold Hid; omega, ?_, ?_, ?_⟩
  · unfold Hid; rw [e2]; exact IntWalk.i64_in _ (by omega)
  · intro h; rw [IntWalk.i64_in _ (by omega)]; rfl
  · unfold Hid; rw [e]; exact IntWalk.i64_in _ (by omega)

/-- What a page's bytes are: a cut of the block's own bytes. -/
def PageOut (w : World) (A : CA) (C : Chip) (p : Plc) (b : Blk) (e : Ending) : Prop :=
  ∃ (m k pp y cap : Nat), p.b = m ∧ p.p = pp ∧ C.g.Y + 16 = y ∧ BlkAt w A C m b k ∧ e = .returned (.slice (some ⟨k, pp * y, none⟩) y cap) ∧ y ≤ cap ∧ pp * y + y ≤ b.by_.length

set_option maxHeartbeats 2000000 in
set_option maxRecDepth 100000 in
theorem page85 {w : World} {A : CA} {C : Chip} (h : ChipAt w A C) (p : Plc) (b : Blk) (hp : C.g.isB p = true) (hb : C.at p.b = some b) :
    Calls Tryz.prog 85 #[ptr A.c, .agg #[i64 p.b, i64 p.p]] w fun e w' => PageOut w A C p b e ∧ Below w.heap.size w w' := by
  obtain ⟨m, k, hm, hB⟩ := h.blk hb
  obtain ⟨q1, q2, q3, q4, q5, q6, q7⟩ := num_bounds h.ok hp
  have hgo := (Geo.ok_iff _).1 h.ok
  have hsz := (h.sz m b hB.hb).1
  obtain ⟨pp, hpp⟩ := Int.eq_ofNat_of_zero_le q6
  obtain ⟨y, hy⟩ := Int.eq_ofNat_of_zero_le (show 0 ≤ C.g.Y + 16 by have := hgo.y1; omega)
  obtain ⟨PP, hPP⟩ := Int.eq_ofNat_of_zero_le (show 0 ≤ C.g.P by have := hgo.p1; omega)
  have y80 : y ≤ 80 := by have := hgo.y2; omega
  have P8 : PP ≤ 8 := by have := hgo.p2; omega
  have hlen : b.by_.length = PP * y := by rw [hPP, hy] at hsz; exact_mod_cast hsz
  have hlt : pp < PP := by omega
  have hml := nat_mul_lt (y := y) hlt
  obtain ⟨lo, hlo⟩ : ∃ lo, lo = pp * y := ⟨_, rfl⟩
  have hup : PP * y ≤ 8 * 80 := Nat.mul_le_mul P8 y80
  have c0 := h.str.cell0 0 rfl
  have c1 := h.str.cell0 1 rfl
  have c2 := h.str.cell0 2 rfl
  have c3 := h.str.cell0 3 rfl
  have c4 := h.str.cell0 4 rfl
  have c6 := h.str.cell0 6 rfl
  have l1 : A.c < w.heap.size := h.flt (.inl rfl)
  have l2 : A.bl < w.heap.size := h.flt (.inr (.inl rfl))
  have hB0 := hB
  obtain ⟨lt, hb', hk, d0, d1, d2, d3⟩ := hB
  obtain ⟨pb, pq⟩ := p
  simp only at hm hpp
  subst hm; subst hpp
  have hk' : k ∈ A.bs := List.mem_of_getElem? hk
  have l4 : k < w.heap.size := h.flt (.inr (.inr hk'))
  rw [hlen] at d0
  have hne : A.c ≠ w.heap.size := by omega
  have i0 : (0 : Int) ≤ (m : Int) := by omega
  have i1 : (m : Int) < (C.bk.length : Int) := by omega
  obtain ⟨s1, s2, s3, s4, S5, W1, W2, W3'⟩ := page_arith lo pp y PP hlo hml hup
  have hpp6 : pp ≤ 640 := by omega
  have y1 : 1 ≤ y := by have := hgo.y1; omega
  have hcn : ¬ (PP * y = lo) := by intro e; omega
  have W2 := Lib.hid (W2.out hpp6)
  have HB0 := Lib.hid hB0
  have HLO := Lib.hid hlo
  have HLEN := Lib.hid hlen
  have HPP := Lib.hid hPP
  have HY := Lib.hid hy
  clear hB0 hlo hlen hPP hy hsz hb' hk hgo
  go_enter Tryz.func85, Tryz.ntmps85
  go_wp2_with (go_at_call 58; refine (raw58 C.g _ h.ok).mono ?_; rw [HY.out]; rintro e w' ⟨rfl, hb⟩; have hz := hb.size; (try simp only [World.size_alloc, World.size_setCell, World.size_drew, World.heap_drewN] at hz); (try have hz0 : w.heap.size < w'.heap.size := by omega); (try have hz1 : w.heap.size + 1 < w'.heap.size := by omega); (try have hz2 : w.heap.size + 2 < w'.heap.size := by omega); (try have hz3 : w.heap.size + 3 < w'.heap.size := by omega); obtain ⟨hc, hf⟩ := bcell hb)
  have l1' : A.c < w'.heap.size := by omega
  have l2' : A.bl < w'.heap.size := by omega
  have l1'' : A.c < w.heap.size + 1 := by omega
  have l2'' : A.bl < w.heap.size + 1 := by omega
  have lbl : A.bl ≠ w.heap.size := by omega
  refine wp_region_keep 18 (fun wJ => Below (w').heap.size (w') wJ) (by kernel_rfl) (by kernel_rfl) (by (repeat (first | exact Below.refl _ _ | assumption | (with_reducible refine Below.drew ?_) | (with_reducible refine below_drewN' ?_ _) | (with_reducible refine ext_alloc ?_ ?_; · (first | omega | (simp only [World.size_alloc, World.size_setCell, World.size_drew, World.heap_drewN]; omega) | (simp; omega))) | (with_reducible refine ext_setCell ?_ ?_; · (first | omega | (simp only [World.size_alloc, World.size_setCell, World.size_drew, World.heap_drewN]; omega) | (simp; omega))) | (refine ext_call (by assumption) ?_ ?_; · (first | omega | (simp only [World.size_alloc, World.size_setCell, World.size_drew, World.heap_drewN]; omega) | (simp; omega)))))) ?_
  simp only [List.take_succ_cons, List.take_zero, List.drop_succ_cons, List.drop_zero]
  have w1 := W1.out
  have w2 := W2.out
  have w3' := W3'.out
  have s5 := S5.out
  iterate 18 (apply keep_yes; (· rfl); (· (intro w' hJ; (try obtain ⟨hc', hf'⟩ := bcell hJ); refine gives_of (by (go_simp; rfl)) rfl hJ)); simp only [Act.put, List.setIfInBounds_toArray, List.set_cons_zero, List.set_cons_succ])
  clear w1 w2 w3'
  refine keep_nil ?_
  intro wz hJ
  have hJs := hJ.size
  go_wp2_with (fail)
  clear s5
  go_ret
  refine ⟨⟨m, k, pp, y, PP * y - lo, rfl, rfl, HY.out, HB0.out, ?_, by omega, ?_⟩, by (repeat (first | exact Below.refl _ _ | assumption | (with_reducible refine Below.drew ?_) | (with_reducible refine below_drewN' ?_ _) | (with_reducible refine ext_alloc ?_ ?_; · (first | omega | (simp only [World.size_alloc, World.size_setCell, World.size_drew, World.heap_drewN]; omega) | (simp; omega))) | (with_reducible refine ext_setCell ?_ ?_; · (first | omega | (simp only [World.size_alloc, World.size_setCell, World.size_drew, World.heap_drewN]; omega) | (simp; omega))) | (refine ext_call (by assumption) ?_ ?_; · (first | omega | (simp only [World.size_alloc, World.size_setCell, World.size_drew, World.heap_drewN]; omega) | (simp; omega)))))⟩
  · rw [← HLO.out]; rfl
  · rw [← HLO.out, HLEN.out]; exact s1

/-- A page's bytes. -/
def Blk.page (b : Blk) (pp y : Nat) : List Int := (b.by_.drop (pp * y)).take y

set_option maxHeartbeats 2000000 in
set_option maxRecDepth 100000 in
theorem read43 {w : World} {A : CA} {C : Chip} (h : ChipAt w A C) (p : Plc) (b : Blk) (hp : C.g.isB p = true) (hbk : C.at p.b = some b) (hoff : C.off = false) (ht : C.turn = 0) (ho : C.ops < 4611686018427387903) :
    Calls Tryz.prog 43 #[ptr A.c, .agg #[i64 p.b, i64 p.p]] w fun e w' => (∃ v, e = .returned (.tuple #[v, i64 0]) ∧ Fresh w.heap.size w' (b.page p.p.toNat (C.g.Y + 16).toNat) v) ∧ ChipAt w' A { C with ops := C.ops + 1 } ∧ Turns A.foot w w' := by
  have ha : C.asked p = 0 := by simp [Chip.asked, hoff, hp]
  have HA := Lib.hid ha; clear ha
  have l1 : A.c < w.heap.size := h.flt (.inl rfl)
  have hn : w.heap.size ≠ A.c := by omega
  have hnf : ¬ A.foot w.heap.size := fun hf => by have := h.flt hf; omega
  go_enter Tryz.func43, Tryz.ntmps43
  go_wp2_with (first
    | (go_at_call 83; refine (asked83 (h.below (by (repeat (first | exact Below.refl _ _ | assumption | (with_reducible refine Below.drew ?_) | (with_reducible refine below_drewN' ?_ _) | (with_reducible refine ext_alloc ?_ ?_; · (first | omega | (simp only [World.size_alloc, World.size_setCell, World.size_drew, World.heap_drewN]; omega) | (simp; omega))) | (with_reducible refine ext_setCell ?_ ?_; · (first | omega | (simp only [World.size_alloc, World.size_setCell, World.size_drew, World.heap_drewN]; omega) | (simp; omega))) | (refine ext_call (by assumption) ?_ ?_; · (first | omega | (simp only [World.size_alloc, World.size_setCell, World.size_drew, World.heap_drewN]; omega) | (simp; omega))))))) p).mono ?_; rw [HA.out]; rintro e w' ⟨rfl, hb⟩; have hz := hb.size; (try simp only [World.size_alloc, World.size_setCell, World.size_drew, World.heap_drewN] at hz); (try have hz0 : w.heap.size < w'.heap.size := by omega); (try have hz1 : w.heap.size + 1 < w'.heap.size := by omega); (try have hz2 : w.heap.size + 2 < w'.heap.size := by omega); (try have hz3 : w.heap.size + 3 < w'.heap.size := by omega); obtain ⟨hc, hf⟩ := bcell hb)
    | fail)
  have hC1 : ChipAt w' A C := h.below (by (repeat (first | exact Below.refl _ _ | assumption | (with_reducible refine Below.drew ?_) | (with_reducible refine below_drewN' ?_ _) | (with_reducible refine ext_alloc ?_ ?_; · (first | omega | (simp only [World.size_alloc, World.size_setCell, World.size_drew, World.heap_drewN]; omega) | (simp; omega))) | (with_reducible refine ext_setCell ?_ ?_; · (first | omega | (simp only [World.size_alloc, World.size_setCell, World.size_drew, World.heap_drewN]; omega) | (simp; omega))) | (refine ext_call (by assumption) ?_ ?_; · (first | omega | (simp only [World.size_alloc, World.size_setCell, World.size_drew, World.heap_drewN]; omega) | (simp; omega))))))
  refine (begin84 hC1 ht ho).mono ?_
  rintro e w1 ⟨rfl, hC2, ht1⟩
  have e0 : w1.cell? ⟨w.heap.size, 0, none⟩ = some (i64 p.b) := by rw [ht1.cell (by exact hz0) hnf, hc _ _ (by simp)]; simp
  have e1 : w1.cell? ⟨w.heap.size, 1, none⟩ = some (i64 p.p) := by rw [ht1.cell (by exact hz0) hnf, hc _ _ (by simp)]; simp
  have hz1 := ht1.size
  have hbw : Below w.heap.size w w' := by (repeat (first | exact Below.refl _ _ | assumption | (with_reducible refine Below.drew ?_) | (with_reducible refine below_drewN' ?_ _) | (with_reducible refine ext_alloc ?_ ?_; · (first | omega | (simp only [World.size_alloc, World.size_setCell, World.size_drew, World.heap_drewN]; omega) | (simp; omega))) | (with_reducible refine ext_setCell ?_ ?_; · (first | omega | (simp only [World.size_alloc, World.size_setCell, World.size_drew, World.heap_drewN]; omega) | (simp; omega))) | (refine ext_call (by assumption) ?_ ?_; · (first | omega | (simp only [World.size_alloc, World.size_setCell, World.size_drew, World.heap_drewN]; omega) | (simp; omega)))))
  clear hc hf
  have HC2 := Lib.hid hC2; clear hC2
  go_wp2_with fail
  refine (page85 HC2.out p b hp hbk).mono ?_
  rintro e w2 ⟨⟨m, k, pp, y, cap, em, epp, ey, hB, rfl, hcap, hlen⟩, hb2⟩
  have hpage : b.page p.p.toNat (C.g.Y + 16).toNat = (b.by_.drop (pp * y)).take y := by
    have e1 : p.p.toNat = pp := by omega
    have e2 : (C.g.Y + 16).toNat = y := by have : C.g.Y + 16 = (y : Int) := ey; omega
    rw [e1, e2]; rfl
  have hl : (b.page p.p.toNat (C.g.Y + 16).toNat).length = y := by rw [hpage]; simp; omega
  have hy80 : y ≤ 100000 ∧ 0 < y := by have := (Geo.ok_iff _).1 h.ok; have h1 := this.y1; have h2 := this.y2; have : C.g.Y + 16 = (y : Int) := ey; omega
  have hrow0 := row_of_heap (HC2.out.row m b k hB.hb hB.hk).2
  have hrow : Row w2 k (pp * y) ((b.page p.p.toNat (C.g.Y + 16).toNat).map u8) := by
    have : Row w1 k (0 + pp * y) ((b.page p.p.toNat (C.g.Y + 16).toNat).map u8) := hrow0.sub fun i v hi => by
      rw [hpage, List.map_take, List.map_drop, List.getElem?_take] at hi
      split at hi
      · rw [List.getElem?_drop] at hi; exact hi
      · cases hi
    rw [Nat.zero_add] at this
    exact this.below hb2
  obtain ⟨q, hq⟩ : ∃ q, q = b.page p.p.toNat (C.g.Y + 16).toNat := ⟨_, rfl⟩
  rw [← hq] at hrow hl
  have HQ := Lib.hid hq
  have hz2 := hb2.size
  have HB := Lib.hid hB
  have HL := Lib.hid hl
  clear hB hl hq hpage hrow0 em epp ey
  have hc70 := clone70 q k (pp * y) cap hrow (by rw [HL.out]; exact hy80.1) (by rw [HL.out]; exact hy80.2)
  rw [HL.out] at hc70
  have HC70 := Lib.hid hc70; clear hc70
  go_wp2_with fail
  refine HC70.out.mono ?_
  rintro e w3 ⟨⟨v, rfl, hv⟩, hb3⟩
  have hz3 := hb3.size
  obtain ⟨g, c, rfl, g1, g2, g3, g4⟩ := hv
  go_wp2_with fail
  go_ret2
  obtain rfl := HQ.out
  refine ⟨⟨_, rfl, g, c, rfl, by omega, g2, g3, g4⟩, (HC2.out.below hb2).below hb3, ?_⟩
  exact (((Turns.of_below hbw).trans ht1).trans (Turns.of_below hb2)).trans (Turns.of_below hb3)
end Go.Proofs.YthghhcnpbehaiaaGreat

/- The flash: what its small functions ask of the chip. -/
namespace Go.Proofs.YthghhcnpbehaiaaGreat
open Go.RowKit

/-- Where a flash's struct begins, and its chip. -/
structure Hd (w : World) (f : Nat) (A : CA) (C : Chip) : Prop where
  chip : ChipAt w A C
  row : Row w f 0 [ptr A.c, i64 C.g.B, i64 C.g.P, i64 C.g.Y, i64 C.g.S, i64 C.g.T]
theorem Hd.below {w w' : World} {f : Nat} {A : CA} {C : Chip} (h : Hd w f A C) (hb : Below w.heap.size w w') : Hd w' f A C := ⟨h.chip.below hb, h.row.below hb⟩

/-- A block works no more. -/
def Chip.isBad (C : Chip) (n : Int) : Bool := C.badB n || C.failedB n
theorem Chip.failedB_of {C : Chip} {n : Int} {b : Blk} (h : C.at n = some b) : C.failedB n = failsB C.fs n b.done := by simp [Chip.failedB, h]
theorem Chip.at_nat {C : Chip} {m : Nat} (h : m < C.bk.length) : ∃ b, C.at (m : Int) = some b ∧ C.bk[m]? = some b := by
  refine ⟨C.bk[m], ?_, List.getElem?_eq_getElem h⟩
  simp [Chip.at]

set_option maxHeartbeats 2000000 in
set_option maxRecDepth 100000 in
theorem bad152 {w : World} {f : Nat} {A : CA} {C : Chip} (h : Hd w f A C) (m : Nat) (hm : m < C.bk.length) : Calls Tryz.prog 152 #[ptr f, i64 m] w fun e w' => e = .returned (.bool (C.isBad m)) ∧ Below w.heap.size w w' := by
  obtain ⟨b, hb, _⟩ := C.at_nat hm
  have c0 := h.row.cell0 0 rfl
  have e1 : C.isBad m = (C.badB m || failsB C.fs m b.done) := by rw [Chip.isBad, Chip.failedB_of hb]
  cases hbb : C.badB m
  · rw [hbb] at e1
    go_enter Tryz.func152, Tryz.ntmps152
    go_wp2_with fail
    refine (bad62 h.chip m).mono ?_
    rw [hbb]
    rintro e w1 ⟨rfl, hb1⟩
    have h1 := h.below hb1
    replace c0 := keepc hb1 c0
    have E1 := Lib.hid e1
    clear e1
    go_wp2_with fail
    refine (failed78 h1.chip m b hb).mono ?_
    rintro e w2 ⟨rfl, hb2⟩
    go_wp2_with fail
    go_ret
    refine ⟨?_, ext_call hb2 hb1.size hb1⟩
    rw [E1.out]; rfl
  · rw [hbb] at e1
    go_enter Tryz.func152, Tryz.ntmps152
    go_wp2_with fail
    refine (bad62 h.chip m).mono ?_
    rw [hbb]
    rintro e w1 ⟨rfl, hb1⟩
    have E1 := Lib.hid e1
    clear e1
    go_wp2_with fail
    go_ret
    exact ⟨by rw [E1.out]; rfl, hb1⟩

theorem good116 {w : World} {f : Nat} {A : CA} {C : Chip} (h : Hd w f A C) (m : Nat) (hm : m < C.bk.length) : Calls Tryz.prog 116 #[ptr f, i64 m] w fun e w' => e = .returned (.bool (!C.isBad m)) ∧ Below w.heap.size w w' := by
  go_enter Tryz.func116, Tryz.ntmps116
  go_wp2_with (go_at_call 152; refine (bad152 h m hm).mono ?_; rintro e w' ⟨rfl, hb⟩)
  go_ret
  exact ⟨rfl, hb⟩

def Chip.isFree (C : Chip) (n : Int) : Bool := !C.isBad n && decide (C.usedOf n = 0)
set_option maxHeartbeats 2000000 in
set_option maxRecDepth 100000 in
theorem free114 {w : World} {f : Nat} {A : CA} {C : Chip} (h : Hd w f A C) (m : Nat) (hm : m < C.bk.length) : Calls Tryz.prog 114 #[ptr f, i64 m] w fun e w' => e = .returned (.bool (C.isFree m)) ∧ Below w.heap.size w w' := by
  have c0 := h.row.cell0 0 rfl
  cases hbb : C.isBad m
  · go_enter Tryz.func114, Tryz.ntmps114
    go_wp2_with fail
    refine (good116 h m hm).mono ?_
    rw [hbb]
    rintro e w1 ⟨rfl, hb1⟩
    have h1 := h.below hb1
    replace c0 := keepc hb1 c0
    go_wp2_with fail
    refine (used153 h1.chip m).mono ?_
    rintro e w2 ⟨rfl, hb2⟩
    go_wp2_with fail
    go_ret
    refine ⟨?_, by first | exact ext_call hb2 hb1.size hb1 | (repeat (first | exact Below.refl _ _ | assumption | (with_reducible refine Below.drew ?_) | (with_reducible refine below_drewN' ?_ _) | (with_reducible refine ext_alloc ?_ ?_; · (first | omega | (simp only [World.size_alloc, World.size_setCell, World.size_drew, World.heap_drewN]; omega) | (simp; omega))) | (with_reducible refine ext_setCell ?_ ?_; · (first | omega | (simp only [World.size_alloc, World.size_setCell, World.size_drew, World.heap_drewN]; omega) | (simp; omega))) | (refine ext_call (by assumption) ?_ ?_; · (first | omega | (simp only [World.size_alloc, World.size_setCell, World.size_drew, World.heap_drewN]; omega) | (simp; omega)))))⟩
    simp [Chip.isFree, hbb]
    rfl
  · go_enter Tryz.func114, Tryz.ntmps114
    go_wp2_with fail
    refine (good116 h m hm).mono ?_
    rw [hbb]
    rintro e w1 ⟨rfl, hb1⟩
    go_wp2_with fail
    go_ret
    exact ⟨by simp [Chip.isFree, hbb], hb1⟩

/-- How many of the first k are so. -/
def cnt (p : Nat → Bool) (k : Nat) : Nat := ((List.range k).filter p).length
theorem cnt_succ (p : Nat → Bool) (k : Nat) : cnt p (k + 1) = cnt p k + if p k then 1 else 0 := by
  simp only [cnt, List.range_succ, List.filter_append, List.length_append]
  cases h : p k <;> simp [h]
theorem cnt_le (p : Nat → Bool) (k : Nat) : cnt p k ≤ k := by
  have := List.length_filter_le p (List.range k); simpa [cnt] using this
def Chip.lost (C : Chip) : Nat := cnt (fun i => C.isBad i) C.bk.length

theorem ChipAt.small {w : World} {A : CA} {C : Chip} (h : ChipAt w A C) : 8 ≤ C.bk.length ∧ C.bk.length ≤ 20 := by
  have hgo := (Geo.ok_iff _).1 h.ok
  have := hgo.b1; have := hgo.b2; have := h.bn
  omega

set_option maxHeartbeats 2000000 in
set_option maxRecDepth 100000 in
theorem lost112 {w : World} {f : Nat} {A : CA} {C : Chip} (h : Hd w f A C) : Calls Tryz.prog 112 #[ptr f] w fun e w' => e = .returned (i64 C.lost) ∧ Below w.heap.size w w' := by
  have c1 := h.row.cell0 1 rfl
  have hs := h.chip.small
  have hbn := h.chip.bn
  have HBN := Lib.hid hbn
  clear hbn
  go_enter Tryz.func112, Tryz.ntmps112
  go_wp2_with fail
  go_loopw [3, 10] (fun r i wr => ∃ k : Nat, k ≤ C.bk.length ∧ r = .int .i64 (cnt (fun i => C.isBad i) k) ∧ i = .int .i64 k ∧ Below w.heap.size w wr) (fun _ i _ => C.bk.length - (RowKit.intOf i).toNat)
  case atStart => exact ⟨0, Nat.zero_le _, rfl, rfl, Below.refl _ _⟩
  case round =>
    obtain ⟨k, hk, rfl, rfl, hbr⟩ := hrel
    have k0 : (0 : Int) ≤ (k : Int) := by omega
    have hcs := cnt_succ (fun i => C.isBad i) k
    have hcl := cnt_le (fun i => C.isBad i) k
    have hkw : IntKind.i64.wrap ((k : Int) + 1) = ((k + 1 : Nat) : Int) := by rw [IntWalk.i64_in _ (by omega)]; omega
    by_cases hlt : (k : Int) < C.g.B
    · have hkl : k < C.bk.length := by have := HBN.out; omega
      cases hbb : C.isBad k
      · have hcs2 : cnt (fun i => C.isBad i) (k + 1) = cnt (fun i => C.isBad i) k := by rw [hcs]; simp [hbb]
        have H2 := Lib.hid hcs2
        clear hcs hcs2
        generalize cnt (fun i => C.isBad i) k = c at *
        go_wp2_with (go_at_call 152; refine (bad152 (h.below hbr) k hkl).mono ?_; rw [hbb]; rintro e w' ⟨rfl, hb⟩)
        refine ⟨⟨k + 1, by omega, by rw [H2.out], ?_, ext_call hb hbr.size hbr⟩, by simp [RowKit.intOf]; omega⟩
        first | rfl | (congr 1; done) | (congr 1; omega)
      · have hcs2 : cnt (fun i => C.isBad i) (k + 1) = cnt (fun i => C.isBad i) k + 1 := by rw [hcs]; simp [hbb]
        have H2 := Lib.hid hcs2
        clear hcs hcs2
        generalize cnt (fun i => C.isBad i) k = c at *
        have hcw : IntKind.i64.wrap ((c : Int) + 1) = ((c + 1 : Nat) : Int) := by rw [IntWalk.i64_in _ (by omega)]; omega
        go_wp2_with (go_at_call 152; refine (bad152 (h.below hbr) k hkl).mono ?_; rw [hbb]; rintro e w' ⟨rfl, hb⟩)
        refine ⟨⟨k + 1, by omega, ?_, ?_, ext_call hb hbr.size hbr⟩, by simp [RowKit.intOf]; omega⟩
        · rw [H2.out]; first | rfl | (congr 1; done) | (congr 1; omega)
        · first | rfl | (congr 1; done) | (congr 1; omega)
    · have hkl : k = C.bk.length := by have := HBN.out; omega
      subst hkl
      go_wp2_with fail
      go_ret
      exact ⟨rfl, hbr⟩
end Go.Proofs.YthghhcnpbehaiaaGreat

/- The flash: worn, target. -/
namespace Go.Proofs.YthghhcnpbehaiaaGreat
open Go.RowKit

theorem own_below' {w w' : World} {base : Nat} {e : TypeId} {size : Nat} {v : Value} {n : Nat} {xs : List Value} (h : w.ownsRow base e size v n xs) (hb : Below w.heap.size w w') : w'.ownsRow base e size v n xs :=
  h.kept (row := none) ⟨hb.os, hb.tape, hb.output, hb.size, fun k hk _ => hb.block k hk⟩ (by cases v.ownBlock <;> simp)

theorem Hd.f_lt {w : World} {f : Nat} {A : CA} {C : Chip} (h : Hd w f A C) : f < w.heap.size := h.row.lt (by simp)

set_option maxHeartbeats 2000000 in
set_option maxRecDepth 100000 in
theorem worn67_no {w : World} {f : Nat} {A : CA} {C : Chip} (h : Hd w f A C) (hl : (C.lost : Int) ≤ C.g.S) : Calls Tryz.prog 67 #[ptr f] w fun e w' => e = .returned (i64 0) ∧ Below w.heap.size w w' := by
  have c4 := h.row.cell0 4 rfl
  have lf := h.f_lt
  go_enter Tryz.func67, Tryz.ntmps67
  go_wp2_with fail
  refine wp_region_keep 7 (fun wJ => Below (w).heap.size (w) wJ) (by kernel_rfl) (by kernel_rfl) (by (repeat (first | exact Below.refl _ _ | assumption | (with_reducible refine Below.drew ?_) | (with_reducible refine below_drewN' ?_ _) | (with_reducible refine ext_alloc ?_ ?_; · (first | omega | (simp only [World.size_alloc, World.size_setCell, World.size_drew, World.heap_drewN]; omega) | (simp; omega))) | (with_reducible refine ext_setCell ?_ ?_; · (first | omega | (simp only [World.size_alloc, World.size_setCell, World.size_drew, World.heap_drewN]; omega) | (simp; omega))) | (refine ext_call (by assumption) ?_ ?_; · (first | omega | (simp only [World.size_alloc, World.size_setCell, World.size_drew, World.heap_drewN]; omega) | (simp; omega)))))) ?_
  simp only [List.take_succ_cons, List.take_zero, List.drop_succ_cons, List.drop_zero]
  iterate 1 (apply keep_yes; (· rfl); (· (intro w' hJ; (try obtain ⟨hc', hf'⟩ := bcell hJ); refine gives_of (by (go_simp; rfl)) rfl hJ)); simp only [Act.put, List.setIfInBounds_toArray, List.set_cons_zero, List.set_cons_succ])
  (apply keep_yes; (· rfl); (· (intro w' hJ; refine gives_call (v := i64 C.lost) (by (go_simp; first | rfl | exact ⟨⟨rfl, rfl⟩, rfl⟩)) ?_; refine (lost112 (h.below hJ)).mono ?_; rintro e w'' ⟨rfl, hbx⟩; exact ⟨rfl, ext_call hbx hJ.size hJ⟩)); simp only [Act.put, List.setIfInBounds_toArray, List.set_cons_zero, List.set_cons_succ])
  iterate 5 (apply keep_yes; (· rfl); (· (intro w' hJ; (try obtain ⟨hc', hf'⟩ := bcell hJ); refine gives_of (by (go_simp; rfl)) rfl hJ)); simp only [Act.put, List.setIfInBounds_toArray, List.set_cons_zero, List.set_cons_succ])
  refine keep_nil ?_
  intro w1 hb1
  go_wp2_with fail
  go_ret
  exact ⟨rfl, hb1⟩

set_option maxHeartbeats 2000000 in
set_option maxRecDepth 100000 in
theorem target115 {w : World} {f : Nat} {A : CA} {C : Chip} (h : Hd w f A C) : Calls Tryz.prog 115 #[ptr f] w fun e w' => e = .returned (i64 (2 + C.g.S - C.lost)) ∧ Below w.heap.size w w' := by
  have c4 := h.row.cell0 4 rfl
  have lf := h.f_lt
  have hgo := (Geo.ok_iff _).1 h.chip.ok
  have s1 := hgo.s1
  have s2 := hgo.s2
  have hll : C.lost ≤ 20 := by have := cnt_le (fun i => C.isBad i) C.bk.length; have := h.chip.small; unfold Chip.lost; omega
  have w1 : IntKind.i64.wrap (2 + C.g.S) = 2 + C.g.S := IntWalk.i64_in _ (by omega)
  have w2 : IntKind.i64.wrap (2 + C.g.S - C.lost) = 2 + C.g.S - C.lost := IntWalk.i64_in _ (by omega)
  clear hgo
  go_enter Tryz.func115, Tryz.ntmps115
  go_wp2_with fail
  refine wp_region_keep 8 (fun wJ => Below (w).heap.size (w) wJ) (by kernel_rfl) (by kernel_rfl) (by (repeat (first | exact Below.refl _ _ | assumption | (with_reducible refine Below.drew ?_) | (with_reducible refine below_drewN' ?_ _) | (with_reducible refine ext_alloc ?_ ?_; · (first | omega | (simp only [World.size_alloc, World.size_setCell, World.size_drew, World.heap_drewN]; omega) | (simp; omega))) | (with_reducible refine ext_setCell ?_ ?_; · (first | omega | (simp only [World.size_alloc, World.size_setCell, World.size_drew, World.heap_drewN]; omega) | (simp; omega))) | (refine ext_call (by assumption) ?_ ?_; · (first | omega | (simp only [World.size_alloc, World.size_setCell, World.size_drew, World.heap_drewN]; omega) | (simp; omega)))))) ?_
  simp only [List.take_succ_cons, List.take_zero, List.drop_succ_cons, List.drop_zero]
  iterate 7 (apply keep_yes; (· rfl); (· (intro w' hJ; (try obtain ⟨hc', hf'⟩ := bcell hJ); refine gives_of (by (go_simp; rfl)) rfl hJ)); simp only [Act.put, List.setIfInBounds_toArray, List.set_cons_zero, List.set_cons_succ])
  (apply keep_yes; (· rfl); (· (intro w' hJ; refine gives_call (v := i64 C.lost) (by (go_simp; first | rfl | exact ⟨⟨rfl, rfl⟩, rfl⟩)) ?_; refine (lost112 (h.below hJ)).mono ?_; rintro e w'' ⟨rfl, hbx⟩; exact ⟨rfl, ext_call hbx hJ.size hJ⟩)); simp only [Act.put, List.setIfInBounds_toArray, List.set_cons_zero, List.set_cons_succ])
  refine keep_nil ?_
  intro w3 hb3
  go_wp2_with fail
  go_ret
  exact ⟨by first | rfl | rw [w2], hb3⟩

theorem info3 : (Tryz.prog.info? 3).map (fun i => (i.zero, i.size, i.bytes)) = some (some (.int .i64 0), 1, 8) := by kernel_rfl

/-- What each block's wear is. -/
def Chip.wears (C : Chip) : List Int := (List.range C.bk.length).map fun i => C.wearOf (i : Nat)

set_option maxHeartbeats 2000000 in
set_option maxRecDepth 100000 in
theorem wears120 {w : World} {f : Nat} {A : CA} {C : Chip} (h : Hd w f A C) : Calls Tryz.prog 120 #[ptr f] w fun e w' => (∃ v, e = .returned v ∧ w'.ownsRow w.heap.size 3 1 v C.bk.length (C.wears.map i64)) ∧ Below w.heap.size w w' := by
  have c1 := h.row.cell0 1 rfl
  have hs := h.chip.small
  have hbn := h.chip.bn
  obtain ⟨i0, hi, hz0, hz1, hz2⟩ := info_parts info3
  have HBN := Lib.hid hbn
  clear hbn
  go_enter Tryz.func120, Tryz.ntmps120
  go_wp2_with fail
  go_loopw [3, 10] (fun r i wr => ∃ k : Nat, k ≤ C.bk.length ∧ i = .int .i64 k ∧ Below w.heap.size w wr ∧ wr.ownsRow w.heap.size 3 1 r k (((List.range k).map fun i => C.wearOf (i : Nat)).map i64)) (fun _ i _ => C.bk.length - (RowKit.intOf i).toNat)
  case atStart => exact ⟨0, Nat.zero_le _, rfl, Below.refl _ _, World.ownsRow_nil _ _ _ _⟩
  case round =>
    obtain ⟨k, hk, rfl, hbr, hown⟩ := hrel
    have k0 : (0 : Int) ≤ (k : Int) := by omega
    have hkw : IntKind.i64.wrap ((k : Int) + 1) = ((k + 1 : Nat) : Int) := by rw [IntWalk.i64_in _ (by omega)]; omega
    have HOWN := Lib.hid hown
    clear hown
    by_cases hlt : (k : Int) < C.g.B
    · have hkl : k < C.bk.length := by have := HBN.out; omega
      have hr := h.below hbr
      have c0 := hr.row.cell0 0 rfl
      have zr := hbr.size
      go_wp2_with fail
      refine (wear77 hr.chip k).mono ?_
      rintro e w1 ⟨rfl, hb1⟩
      have z1 := hb1.size
      have own1 := own_below' HOWN.out hb1
      have HO1 := Lib.hid own1
      clear own1
      go_wp2_with (at_builtin; refine wpList_append_own _ rfl _ _ 25 rfl w.heap.size 3 i0 (.int .i64 0) 1 8 Tryz.underlying25 hi hz0 hz1 hz2 rfl (by decide) _ _ _ rfl (HO1.out.alloc _) ⟨w1.heap.size, 0, none⟩ 1 1 [i64 (C.wearOf k)] rfl rfl ?c3 ?c4 (by unfold maxLen; omega) (by omega) (by simp; omega) ?_)
      case c3 =>
        intro j u hj
        cases j with
        | zero => cases hj; simp [Addr.add]
        | succ j => simp at hj
      case c4 => intro u hu; simp at hu; subst hu; rfl
      intro v2 w2 hown2 hg2 hnil
      clear hnil
      have hb2 : Below w.heap.size w w2 := ((hbr.trans (hb1.mono zr)).alloc (by omega) _).trans (grown_below hg2 (by simp; omega) (fun g hg' => (HO1.out.lt g hg').1))
      have HO2 := Lib.hid hown2
      clear hown2 hg2
      go_wp2_with fail
      refine ⟨⟨k + 1, by omega, ?_, hb2, ?_⟩, by simp [RowKit.intOf]; omega⟩
      · first | rfl | (congr 1; done) | (congr 1; omega)
      · have := HO2.out
        rw [List.range_succ, List.map_append, List.map_append, List.map_map]
        exact this
    · have hkl : k = C.bk.length := by have := HBN.out; omega
      subst hkl
      go_wp2_with fail
      go_ret
      exact ⟨⟨_, rfl, HOWN.out⟩, hbr⟩
end Go.Proofs.YthghhcnpbehaiaaGreat

/- The flash: these, many. -/
namespace Go.Proofs.YthghhcnpbehaiaaGreat
open Go.RowKit

theorem info4 : (Tryz.prog.info? 4).map (fun i => (i.zero, i.size, i.bytes)) = some (some (.bool false), 1, 1) := by kernel_rfl
def these (p : Nat → Bool) (n : Nat) : List Bool := (List.range n).map p

set_option maxHeartbeats 2000000 in
set_option maxRecDepth 100000 in
theorem these121 {w : World} {f : Nat} {A : CA} {C : Chip} (h : Hd w f A C) (fn : FuncId) (hfn : fn = 114 ∨ fn = 116) (p : Nat → Bool)
    (hp : ∀ wx k, Below w.heap.size w wx → k < C.bk.length → Calls Tryz.prog fn #[ptr f, i64 (k : Nat)] wx fun e w' => e = .returned (.bool (p k)) ∧ Below wx.heap.size wx w') :
    Calls Tryz.prog 121 #[ptr f, .func (Fn.func fn) #[ptr f] #[]] w fun e w' => (∃ v, e = .returned v ∧ w'.ownsRow w.heap.size 4 1 v C.bk.length ((these p C.bk.length).map Value.bool)) ∧ Below w.heap.size w w' := by
  have c1 := h.row.cell0 1 rfl
  have hs := h.chip.small
  have hbn := h.chip.bn
  obtain ⟨i0, hi, hz0, hz1, hz2⟩ := info_parts info4
  have HBN := Lib.hid hbn
  clear hbn
  go_enter Tryz.func121, Tryz.ntmps121
  go_wp2_with fail
  go_loopw [5, 12] (fun r i wr => ∃ k : Nat, k ≤ C.bk.length ∧ i = .int .i64 k ∧ Below w.heap.size w wr ∧ wr.ownsRow w.heap.size 4 1 r k ((these p k).map Value.bool)) (fun _ i _ => C.bk.length - (RowKit.intOf i).toNat)
  case atStart => exact ⟨0, Nat.zero_le _, rfl, Below.refl _ _, World.ownsRow_nil _ _ _ _⟩
  case round =>
    obtain ⟨k, hk, rfl, hbr, hown⟩ := hrel
    have k0 : (0 : Int) ≤ (k : Int) := by omega
    have hkw : IntKind.i64.wrap ((k : Int) + 1) = ((k + 1 : Nat) : Int) := by rw [IntWalk.i64_in _ (by omega)]; omega
    have HOWN := Lib.hid hown
    clear hown
    by_cases hlt : (k : Int) < C.g.B
    · have hkl : k < C.bk.length := by have := HBN.out; omega
      have zr := hbr.size
      have HC := Lib.hid (hp _ k hbr hkl)
      rcases hfn with rfl | rfl
      all_goals
        go_wp2_with fail
        refine HC.out.mono ?_
        rintro e w1 ⟨rfl, hb1⟩
        have z1 := hb1.size
        have own1 := own_below' HOWN.out hb1
        have HO1 := Lib.hid own1
        clear own1
        go_wp2_with (at_builtin; refine wpList_append_own _ rfl _ _ 117 rfl w.heap.size 4 i0 (.bool false) 1 1 Tryz.underlying117 hi hz0 hz1 hz2 rfl (by decide) _ _ _ rfl (HO1.out.alloc _) ⟨w1.heap.size, 0, none⟩ 1 1 [Value.bool (p k)] rfl rfl ?c3 ?c4 (by unfold maxLen; omega) (by omega) (by simp; omega) ?_)
        case c3 =>
          intro j u hj
          cases j with
          | zero => cases hj; simp [Addr.add]
          | succ j => simp at hj
        case c4 => intro u hu; simp at hu; subst hu; rfl
        intro v2 w2 hown2 hg2 hnil
        clear hnil
        have hb2 : Below w.heap.size w w2 := ((hbr.trans (hb1.mono zr)).alloc (by omega) _).trans (grown_below hg2 (by simp; omega) (fun g hg' => (HO1.out.lt g hg').1))
        have HO2 := Lib.hid hown2
        clear hown2 hg2
        go_wp2_with fail
        refine ⟨⟨k + 1, by omega, ?_, hb2, ?_⟩, by simp [RowKit.intOf]; omega⟩
        · first | rfl | (congr 1; done) | (congr 1; omega)
        · have := HO2.out
          rw [these, List.range_succ, List.map_append, List.map_append]
          exact this
    · have hkl : k = C.bk.length := by have := HBN.out; omega
      subst hkl
      go_wp2_with fail
      go_ret
      exact ⟨⟨_, rfl, HOWN.out⟩, hbr⟩
end Go.Proofs.YthghhcnpbehaiaaGreat

/- The flash: many. -/
namespace Go.Proofs.YthghhcnpbehaiaaGreat
open Go.RowKit

theorem these_get {p : Nat → Bool} {n k : Nat} (h : k < n) : ((these p n).map Value.bool)[k]? = some (.bool (p k)) := by
  simp [these, h]

theorem own_rowE {w : World} {base e n g cap : Nat} {xs : List Value} (h : w.ownsRow base e 1 (.slice (some ⟨g, 0, none⟩) n cap) n xs) : Row w g 0 xs := (own_row h).2.2.2

set_option maxHeartbeats 2000000 in
set_option maxRecDepth 100000 in
theorem many113 {w : World} {f : Nat} {A : CA} {C : Chip} (h : Hd w f A C) (fn : FuncId) (hfn : fn = 114 ∨ fn = 116) (p : Nat → Bool)
    (hp : ∀ wx k, Below w.heap.size w wx → k < C.bk.length → Calls Tryz.prog fn #[ptr f, i64 (k : Nat)] wx fun e w' => e = .returned (.bool (p k)) ∧ Below wx.heap.size wx w') :
    Calls Tryz.prog 113 #[ptr f, .func (Fn.func fn) #[ptr f] #[]] w fun e w' => e = .returned (i64 (cnt p C.bk.length)) ∧ Below w.heap.size w w' := by
  have hs := h.chip.small
  have HP := Lib.hid hp
  clear hp
  go_enter Tryz.func113, Tryz.ntmps113
  go_wp2_with fail
  refine (these121 h fn hfn p HP.out).mono ?_
  rintro e w1 ⟨⟨v, rfl, hown⟩, hb1⟩
  obtain ⟨g, cap, rfl⟩ := own_some hown (by intro e; subst e; rcases hown.2 with ⟨_, h0⟩ | ⟨_, _, _, h0, _⟩; omega; cases h0)
  have hrow := own_rowE hown
  clear hown
  obtain ⟨n, hn⟩ : ∃ n, C.bk.length = n := ⟨_, rfl⟩
  rw [hn] at hs hrow ⊢
  have HR := Lib.hid hrow
  have HNN := Lib.hid hn
  clear hrow hn
  go_wp2_with fail
  go_loopw [5, 12] (fun r i wr => ∃ k : Nat, k ≤ n ∧ r = .int .i64 (cnt p k) ∧ i = .int .i64 k ∧ wr = w1) (fun _ i _ => n - (RowKit.intOf i).toNat)
  case atStart => exact ⟨0, Nat.zero_le _, rfl, rfl, rfl⟩
  case round =>
    obtain ⟨k, hk, rfl, rfl, rfl⟩ := hrel
    have k0 : (0 : Int) ≤ (k : Int) := by omega
    have hcs := cnt_succ p k
    have hcl := cnt_le p k
    have hkw : IntKind.i64.wrap ((k : Int) + 1) = ((k + 1 : Nat) : Int) := by rw [IntWalk.i64_in _ (by omega)]; omega
    by_cases hlt : k < n
    · have c0 : wr.cell? ⟨g, k, none⟩ = some (.bool (p k)) := HR.out.cell0 k (these_get hlt)
      cases hbb : p k
      · rw [hbb] at c0
        have hcs2 : cnt p (k + 1) = cnt p k := by rw [hcs]; simp [hbb]
        have H2 := Lib.hid hcs2
        clear hcs hcs2
        generalize cnt p k = c at *
        go_wp2_with fail
        refine ⟨⟨k + 1, by omega, by rw [H2.out], ?_, trivial⟩, by simp [RowKit.intOf]; omega⟩
        first | rfl | (congr 1; done) | (congr 1; omega)
      · rw [hbb] at c0
        have hcs2 : cnt p (k + 1) = cnt p k + 1 := by rw [hcs]; simp [hbb]
        have H2 := Lib.hid hcs2
        clear hcs hcs2
        generalize cnt p k = c at *
        have hcw : IntKind.i64.wrap ((c : Int) + 1) = ((c + 1 : Nat) : Int) := by rw [IntWalk.i64_in _ (by omega)]; omega
        go_wp2_with fail
        refine ⟨⟨k + 1, by omega, ?_, ?_, trivial⟩, by simp [RowKit.intOf]; omega⟩
        · rw [H2.out]; first | rfl | (congr 1; done) | (congr 1; omega)
        · first | rfl | (congr 1; done) | (congr 1; omega)
    · have hkl : k = n := by omega
      subst hkl
      go_wp2_with fail
      go_ret
      refine ⟨?_, hb1⟩
      rw [HNN.out]; rfl
end Go.Proofs.YthghhcnpbehaiaaGreat
