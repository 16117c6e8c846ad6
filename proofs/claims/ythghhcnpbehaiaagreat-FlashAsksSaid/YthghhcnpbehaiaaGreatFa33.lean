/- The flash: restore and level, where there is nothing to do. -/
import Derived.Test.YthghhcnpbehaiaaGreatFa31
import Derived.Test.YthghhcnpbehaiaaGreatFa32

namespace Go.Proofs.YthghhcnpbehaiaaGreat
open Go.RowKit

def Chip.spread (C : Chip) : Int := spreadOf (fun i => C.wearOf (i : Nat)) (fun i => !C.isBad (i : Nat)) C.bk.length
theorem wear_bd {w : World} {A : CA} {C : Chip} (h : ChipAt w A C) (i : Nat) (hi : i < C.bk.length) : 0 ≤ C.wearOf (i : Nat) ∧ C.wearOf (i : Nat) < 4611686018427387904 := by
  obtain ⟨b, hb, hb2⟩ := C.at_nat hi
  have := h.sz i b hb2
  have e : C.wearOf (i : Nat) = b.wear := by simp [Chip.wearOf, hb]
  rw [e]; omega

set_option maxHeartbeats 2000000 in
set_option maxRecDepth 100000 in
theorem restore71_no {w : World} {X : FA} {F : Fl} (h : FlashAt w X F) (hf : 2 + F.C.g.S - F.C.lost ≤ F.C.freeN) : Calls Tryz.prog 71 #[ptr X.f] w fun e w' => e = .returned (i64 0) ∧ Below w.heap.size w w' := by
  have hgo := (Geo.ok_iff _).1 h.chip.ok
  have b1 := hgo.b1; have b2 := hgo.b2
  have c1 := h.row.cell0 1 rfl
  have hH := h.hd
  have hmany := fun W (hb : Below w.heap.size w W) => many113 (hH.below hb) 114 (.inl rfl) (fun i => F.C.isFree (i : Nat)) (fun wx k hb2 hk => free114 ((hH.below hb).below hb2) k hk)
  have htar := fun W (hb : Below w.heap.size w W) => target115 (hH.below hb)
  have HMA := Lib.hid hmany
  have HTA := Lib.hid htar
  have hf2 : 2 + F.C.g.S - (F.C.lost : Int) ≤ ((cnt (fun i => F.C.isFree (i : Nat)) F.C.bk.length : Nat) : Int) := hf
  have B0 : (0 : Int) < F.C.g.B := by omega
  clear h hgo hH hmany htar hf
  go_enter Tryz.func71, Tryz.ntmps71
  go_wp2_with fail
  go_loopw [10] (fun i wr => i = .int .i64 0 ∧ wr = w) (fun i _ => 0)
  case atStart => exact ⟨rfl, rfl⟩
  case round =>
    obtain ⟨rfl, rfl⟩ := hrel
    go_wp2_with fail
    refine (HMA.out _ (Below.refl _ _)).mono ?_
    rintro e w1 ⟨rfl, hb1⟩
    go_wp2_with fail
    refine (HTA.out _ hb1).mono ?_
    rintro e w2 ⟨rfl, hb2⟩
    go_wp2_with fail
    go_ret
    exact ⟨rfl, ext_call hb2 hb1.size hb1⟩

set_option maxHeartbeats 2000000 in
set_option maxRecDepth 100000 in
theorem level73_no {w : World} {X : FA} {F : Fl} (h : FlashAt w X F) (hd : F.C.spread ≤ F.C.g.T) : Calls Tryz.prog 73 #[ptr X.f] w fun e w' => e = .returned (i64 0) ∧ Below w.heap.size w w' := by
  have hgo := (Geo.ok_iff _).1 h.chip.ok
  have b1 := hgo.b1; have b2 := hgo.b2
  have c1 := h.row.cell0 1 rfl
  have c5 := h.row.cell0 5 rfl
  have hs := h.chip.small
  have hH := h.hd
  have hwb := fun i hi => wear_bd h.chip i hi
  have hdue : (decide (F.C.g.T < F.C.spread)) = false := by simpa using hd
  have HH := Lib.hid hH
  have HWB := Lib.hid hwb
  have HD := Lib.hid hdue
  have B0 : (0 : Int) < F.C.g.B := by omega
  have lf := h.f_lt
  clear h hgo hH hwb hd hdue
  go_enter Tryz.func73, Tryz.ntmps73
  go_wp2_with fail
  go_loopw [11] (fun i wr => i = .int .i64 0 ∧ wr = w) (fun i _ => 0)
  case atStart => exact ⟨rfl, rfl⟩
  case round =>
    obtain ⟨rfl, rfl⟩ := hrel
    go_wp2_with fail
    refine (wears120 HH.out).mono ?_
    rintro e w1 ⟨⟨v1, rfl, own1⟩, hb1⟩
    obtain ⟨g1, k1, rfl⟩ := own_some own1 (by intro e; subst e; rcases own1.2 with ⟨_, h0⟩ | ⟨_, _, _, h0, _⟩; omega; cases h0)
    have R1 := Lib.hid (own_rowE own1)
    have HH1 := Lib.hid (HH.out.below hb1)
    clear own1
    go_wp2_with fail
    refine (these121 HH1.out 116 (.inr rfl) (fun i => !F.C.isBad (i : Nat)) (fun wx k hb hk => good116 (HH1.out.below hb) k hk)).mono ?_
    rintro e w2 ⟨⟨v2, rfl, own2⟩, hb2⟩
    obtain ⟨g2, k2, rfl⟩ := own_some own2 (by intro e; subst e; rcases own2.2 with ⟨_, h0⟩ | ⟨_, _, _, h0, _⟩; omega; cases h0)
    have R2 := Lib.hid (own_rowE own2)
    have c5' := keepc hb2 (keepc hb1 c5)
    have hdu := due122 (fun i => F.C.wearOf (i : Nat)) (fun i => !F.C.isBad (i : Nat)) F.C.bk.length (by omega) HWB.out F.C.g.T g1 k1 g2 k2 w2 (R1.out.below hb2) R2.out
    rw [show spreadOf (fun i => F.C.wearOf (i : Nat)) (fun i => !F.C.isBad (i : Nat)) F.C.bk.length = F.C.spread from rfl, HD.out] at hdu
    have HDU := Lib.hid hdu
    clear own2 hdu c1 c5
    go_wp2_with fail
    refine HDU.out.mono ?_
    rintro e w3 ⟨rfl, hb3⟩
    go_wp2_with fail
    go_ret
    exact ⟨rfl, ext_call hb3 (by have := hb1.size; have := hb2.size; omega) (ext_call hb2 hb1.size hb1)⟩
end Go.Proofs.YthghhcnpbehaiaaGreat
