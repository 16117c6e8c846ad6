/- awake, walked. -/
import Derived.Test.YthghhcnpbehaiaaGreatFa39
import Derived.Test.YthghhcnpbehaiaaGreatFa40
import Derived.LaidEqlPtr

namespace Go.Proofs.YthghhcnpbehaiaaGreat
open Go.RowKit

theorem dA_len : dA.length = 32 := dataL_len 9 32
theorem slat_fresh {B : Nat} {w : World} {l : List Int} {v : Value} (h : Fresh B w l v) : ∃ g c, v = .slice (some ⟨g, 0, none⟩) l.length c ∧ SlAt w (.slice (some ⟨g, 0, none⟩) l.length c) l.length (l.map u8) := by
  obtain ⟨g, c, rfl, h1, h2, h3, h4⟩ := h
  exact ⟨g, c, rfl, _, c, rfl, h3, .inr ⟨g, 0, rfl, h4⟩⟩

set_option maxHeartbeats 2000000 in
set_option maxRecDepth 100000 in
theorem awake13 (w : World) : Calls Tryz.prog 13 #[] w fun e w' => e = .returned (.bool true) ∧ Below w.heap.size w w' := by
  have hpe : ∀ (a : Addr) (W : World), (binOp .eql 28 (.pointer (some a)) (.pointer (some a))).run Tryz.prog W = .ok (.bool true) W := fun a W => run_eql_ptr_same W a rfl rfl
  go_enter Tryz.func13, Tryz.ntmps13
  go_wp2_with fail
  refine (small54 _).mono ?_
  rintro e w1 ⟨rfl, hb1⟩
  have z1 := hb1.size
  go_wp2_with fail
  refine (new14 gS w1 gS_ok).mono ?_
  rintro e w2 ⟨⟨A, rfl, hC2, hA, hfA⟩, hb2⟩
  have z2 := hb2.size
  have hm := mount15 hC2 (fun k o e => by rw [hfA] at e; cases e) pg0 cont0 rfl rfl (by show (0 : Int) < _; omega) (by rw [lost_nil rfl]; decide) 32 (by kernel_rfl)
  have HM := Lib.hid hm
  have HA := Lib.hid hA
  have HFA := Lib.hid hfA
  clear hm hA hfA hC2
  go_wp2_with fail
  refine HM.out.mono ?_
  rintro e w3 ⟨X, rfl, hXA, hXm, hF3, hT3⟩
  have z3 := hT3.size
  have b03 : Below w.heap.size w w3 := ext_turns (ext_call hb2 z1 hb1) (by omega) hT3 (fun k hk => by have := HA.out k hk; omega)
  have HF3 : Hid (FlashAt w3 X F0) := hF3
  have HXA := Lib.hid hXA
  have HXM : Hid (∀ k, X.mut k → w.heap.size ≤ k) := fun k hk => by
    rcases hXm k hk with h | h
    · have := HA.out k h; omega
    · omega
  have B03 := Lib.hid b03
  clear hXA hXm hF3 hT3 b03 HM
  go_wp2_with fail
  refine (data19 9 (by omega) 32 (by omega) w3).mono ?_
  rintro e w4 ⟨rfl, hh4, hb4⟩
  have z4 := hb4.size
  have hwr := write18 (HF3.out.below hb4) 2 asked_0 (by omega) rfl (fun m hm => by exact absurd rfl hm) dA w3.heap.size 0 32 (row_of_heap hh4) (by rw [dA_len]; rfl)
  rw [dA_len] at hwr
  have HWR := Lib.hid hwr
  have B04 := Lib.hid (ext_call hb4 (by omega) B03.out)
  clear hwr hh4
  go_wp2_with fail
  refine HWR.out.mono ?_
  rintro e w5 ⟨rfl, hF5, hT5⟩
  have z5 := hT5.size
  have HF5 : Hid (FlashAt w5 X F1) := hF5
  have B05 := Lib.hid (ext_turns B04.out (by omega) hT5 HXM.out)
  clear hF5 hT5
  have hfl := flush20 HF5.out rfl rfl (by rw [lost_nil rfl]; decide) rfl free_1 (by rw [epoch_1]; omega) FsA Fc rfl 32 (by kernel_rfl) steps_a put_3 calm_c
  have HFL := Lib.hid hfl
  clear hfl
  go_wp2_with fail
  refine HFL.out.mono ?_
  rintro e w6 ⟨rfl, hF6, hT6⟩
  have z6 := hT6.size
  have hch6 : ChipAt w6 A C2 := by have := hF6.chip; rw [HXA.out] at this; exact this
  have B06 := Lib.hid (ext_turns B05.out (by omega) hT6 HXM.out)
  have hm := mount15 hch6 (fun k o e => by rw [HFA.out] at e; cases e) pg2 cont2 rfl rfl (by rw [ops_2]; omega) (by rw [lost_nil rfl]; decide) 32 (by kernel_rfl)
  have HM := Lib.hid hm
  clear hm hch6 hF6 hT6
  go_wp2_with fail
  refine HM.out.mono ?_
  rintro e w7 ⟨X2, rfl, hXA2, hXm2, hF7, hT7⟩
  have z7 := hT7.size
  have HF7 : Hid (FlashAt w7 X2 F3) := hF7
  have B07 := Lib.hid (ext_turns B06.out (by omega) hT7 (fun k hk => by have := HA.out k hk; omega))
  have HXA2 := Lib.hid hXA2
  clear hF7 hT7 hXm2 hXA2 HM
  go_wp2_with fail
  refine (read33_some HF7.out 2 asked_2 (by simp only [ok64]; omega) dA get_2 (by rw [dA_len]; omega)).mono ?_
  rintro e w8 ⟨⟨v, rfl, hfr⟩, hb8⟩
  have z8 := hb8.size
  obtain ⟨gd, cd, rfl, hsd⟩ := slat_fresh hfr
  have HSD := Lib.hid hsd
  have HF8 := Lib.hid (HF7.out.below hb8)
  have B08 := Lib.hid (ext_call hb8 (by omega) B07.out)
  clear hsd hfr
  go_wp2_with fail
  refine (read33_none HF8.out 3 asked_3 (by simp only [ok64]; omega) get_3).mono ?_
  rintro e w9 ⟨rfl, hb9⟩
  have z9 := hb9.size
  have HSD9 := Lib.hid (HSD.out.below hb9)
  have HF9 := Lib.hid (HF8.out.below hb9)
  have B09 := Lib.hid (ext_call hb9 (by omega) B08.out)
  go_wp2_with fail
  refine (data19 9 (by omega) 32 (by omega) w9).mono ?_
  rintro e w10 ⟨rfl, hh10, hb10⟩
  have z10 := hb10.size
  have hsb := sameBytes34 dA (dataL 9 32) dA.length 32 rfl (dataL_len 9 32) (by rw [dA_len]; omega) (some ⟨gd, 0, none⟩) (some ⟨w9.heap.size, 0, none⟩) cd 32 w10 (HSD9.out.below hb10) ⟨_, 32, rfl, Nat.le_refl _, .inr ⟨w9.heap.size, 0, rfl, row_of_heap hh10⟩⟩
  rw [show decide (dA = dataL 9 32) = true from decide_eq_true rfl] at hsb
  have HSB := Lib.hid hsb
  have HF10 := Lib.hid (HF9.out.below hb10)
  have B10 := Lib.hid (ext_call hb10 (by omega) B09.out)
  clear hsb hh10
  go_wp2_with fail
  refine HSB.out.mono ?_
  rintro e w11 ⟨rfl, hb11⟩
  have z11 := hb11.size
  have HF11 := Lib.hid (HF10.out.below hb11)
  have B11 := Lib.hid (ext_call hb11 (by omega) B10.out)
  go_wp2_with fail
  refine (logical23 HF11.out).mono ?_
  rw [logical_3]
  rintro e w12 ⟨rfl, hb12⟩
  have z12 := hb12.size
  have HF12 := Lib.hid (HF11.out.below hb12)
  have B12 := Lib.hid (ext_call hb12 (by omega) B11.out)
  have hpg := pages32 HF12.out 8 (by rw [logical_3]; rfl) (by omega)
  rw [pages_3] at hpg
  have HPG := Lib.hid hpg
  clear hpg
  go_wp2_with fail
  refine HPG.out.mono ?_
  rintro e w13 ⟨⟨v, rfl, hown⟩, hb13⟩
  have z13 := hb13.size
  obtain ⟨hsl, A', cap', rfl⟩ := own_slat hown (by decide)
  have HSL := Lib.hid hsl
  have HF13 := Lib.hid (HF12.out.below hb13)
  have B13 := Lib.hid (ext_call hb13 (by omega) B12.out)
  have hsi := fun W (hW : Below w13.heap.size w13 W) (b : Nat) (hr : Row W b 0 [i64 2]) => sameInts31 [2] [2] 1 1 rfl rfl (by omega) A' (some ⟨b, 0, none⟩) cap' 1 W (HSL.out.below hW) ⟨_, 1, rfl, Nat.le_refl _, .inr ⟨b, 0, rfl, hr⟩⟩
  rw [show decide (([2] : List Int) = [2]) = true from rfl] at hsi
  have HSI := Lib.hid hsi
  clear hsi hsl hown
  go_wp2_with fail
  refine (HSI.out _ (by (repeat (first | exact Below.refl _ _ | assumption | (with_reducible refine Below.drew ?_) | (with_reducible refine below_drewN' ?_ _) | (with_reducible refine ext_alloc ?_ ?_; · (first | omega | (simp only [World.size_alloc, World.size_setCell, World.size_drew, World.heap_drewN]; omega) | (simp; omega))) | (with_reducible refine ext_setCell ?_ ?_; · (first | omega | (simp only [World.size_alloc, World.size_setCell, World.size_drew, World.heap_drewN]; omega) | (simp; omega))) | (refine ext_call (by assumption) ?_ ?_; · (first | omega | (simp only [World.size_alloc, World.size_setCell, World.size_drew, World.heap_drewN]; omega) | (simp; omega)))))) w13.heap.size (Row.new _ _ _)).mono ?_
  rintro e w14 ⟨rfl, hb14⟩
  have h1314 : Below w13.heap.size w13 w14 := by (repeat (first | exact Below.refl _ _ | assumption | (with_reducible refine Below.drew ?_) | (with_reducible refine below_drewN' ?_ _) | (with_reducible refine ext_alloc ?_ ?_; · (first | omega | (simp only [World.size_alloc, World.size_setCell, World.size_drew, World.heap_drewN]; omega) | (simp; omega))) | (with_reducible refine ext_setCell ?_ ?_; · (first | omega | (simp only [World.size_alloc, World.size_setCell, World.size_drew, World.heap_drewN]; omega) | (simp; omega))) | (refine ext_call (by assumption) ?_ ?_; · (first | omega | (simp only [World.size_alloc, World.size_setCell, World.size_drew, World.heap_drewN]; omega) | (simp; omega)))))
  have z14 := h1314.size
  have HF14 := Lib.hid (HF13.out.below h1314)
  have B14 := Lib.hid (ext_call h1314 (by omega) B13.out)
  clear hb14 h1314
  go_wp2_with fail
  refine (chip38 HF14.out).mono ?_
  rw [HXA2.out]
  rintro e w15 ⟨rfl, rfl⟩
  go_wp2_with fail
  go_ret
  exact ⟨rfl, B14.out⟩
end Go.Proofs.YthghhcnpbehaiaaGreat

/- The flash that is not there. -/
namespace Go.Proofs.YthghhcnpbehaiaaGreat
open Go.RowKit

set_option maxHeartbeats 2000000 in
set_option maxRecDepth 100000 in
theorem asked_nil (n : Int) (w : World) : Calls Tryz.prog 69 #[.pointer none, i64 n] w fun e w' => e = .returned (i64 1) ∧ w = w' := by
  go_enter Tryz.func69, Tryz.ntmps69
  go_wp2_with fail
  go_ret
  exact ⟨rfl, rfl⟩

set_option maxHeartbeats 2000000 in
set_option maxRecDepth 100000 in
theorem read_nil (n : Int) (w : World) : Calls Tryz.prog 33 #[.pointer none, i64 n] w fun e w' => e = .returned (.tuple #[.slice none 0 0, i64 1]) ∧ w = w' := by
  go_enter Tryz.func33, Tryz.ntmps33
  go_wp2_with fail
  refine (asked_nil n _).mono ?_
  rintro e w1 ⟨rfl, rfl⟩
  go_wp2_with fail
  go_ret2
  exact ⟨rfl, rfl⟩

set_option maxHeartbeats 2000000 in
set_option maxRecDepth 100000 in
theorem write_nil (n : Int) (w : World) : Calls Tryz.prog 18 #[.pointer none, i64 n, .slice none 0 0] w fun e w' => e = .returned (i64 1) ∧ w = w' := by
  go_enter Tryz.func18, Tryz.ntmps18
  go_wp2_with fail
  refine (asked_nil n _).mono ?_
  rintro e w1 ⟨rfl, rfl⟩
  go_wp2_with fail
  go_ret
  exact ⟨rfl, rfl⟩

set_option maxHeartbeats 2000000 in
set_option maxRecDepth 100000 in
theorem trim_nil (n : Int) (w : World) : Calls Tryz.prog 30 #[.pointer none, i64 n] w fun e w' => e = .returned (i64 1) ∧ w = w' := by
  go_enter Tryz.func30, Tryz.ntmps30
  go_wp2_with fail
  refine (asked_nil n _).mono ?_
  rintro e w1 ⟨rfl, rfl⟩
  go_wp2_with fail
  go_ret
  exact ⟨rfl, rfl⟩

set_option maxHeartbeats 2000000 in
set_option maxRecDepth 100000 in
theorem flush_nil (w : World) : Calls Tryz.prog 20 #[.pointer none] w fun e w' => e = .returned (i64 1) ∧ w = w' := by
  go_enter Tryz.func20, Tryz.ntmps20
  go_wp2_with fail
  go_ret
  exact ⟨rfl, rfl⟩

set_option maxHeartbeats 2000000 in
set_option maxRecDepth 100000 in
theorem degraded_nil (w : World) : Calls Tryz.prog 24 #[.pointer none] w fun e w' => e = .returned (.bool false) ∧ w = w' := by
  go_enter Tryz.func24, Tryz.ntmps24
  go_wp2_with fail
  go_ret
  exact ⟨rfl, rfl⟩

set_option maxHeartbeats 2000000 in
set_option maxRecDepth 100000 in
theorem chip_nil (w : World) : Calls Tryz.prog 38 #[.pointer none] w fun e w' => e = .returned (.pointer none) ∧ w = w' := by
  go_enter Tryz.func38, Tryz.ntmps38
  go_wp2_with fail
  go_ret
  exact ⟨rfl, rfl⟩

set_option maxHeartbeats 2000000 in
set_option maxRecDepth 100000 in
theorem logical_nil (w : World) : Calls Tryz.prog 23 #[.pointer none] w fun e w' => e = .returned (i64 0) ∧ w = w' := by
  go_enter Tryz.func23, Tryz.ntmps23
  go_wp2_with fail
  go_ret
  exact ⟨rfl, rfl⟩

set_option maxHeartbeats 2000000 in
set_option maxRecDepth 100000 in
theorem pages_nil (w : World) : Calls Tryz.prog 32 #[.pointer none] w fun e w' => e = .returned (.slice none 0 0) ∧ w = w' := by
  go_enter Tryz.func32, Tryz.ntmps32
  go_wp2_with fail
  refine (logical_nil _).mono ?_
  rintro e w1 ⟨rfl, rfl⟩
  go_wp2_with fail
  go_loopw [3, 9] (fun r i wr => i = .int .i64 0 ∧ r = .slice none 0 0 ∧ wr = w) (fun _ i _ => 0)
  case atStart => exact ⟨rfl, rfl, rfl⟩
  case round =>
    obtain ⟨rfl, rfl, rfl⟩ := hrel
    go_wp2_with fail
    go_ret
    exact ⟨rfl, rfl⟩

set_option maxHeartbeats 2000000 in
set_option maxRecDepth 100000 in
theorem mount_nil (w : World) : Calls Tryz.prog 15 #[.pointer none] w fun e w' => e = .returned (.tuple #[.pointer none, i64 1]) ∧ w = w' := by
  go_enter Tryz.func15, Tryz.ntmps15
  go_wp2_with fail
  go_ret2
  exact ⟨rfl, rfl⟩

set_option maxHeartbeats 2000000 in
set_option maxRecDepth 100000 in
theorem none8 (n : Int) (w : World) : Calls Tryz.prog 8 #[i64 n] w fun e w' => e = .returned (.bool true) ∧ Below w.heap.size w w' := by
  go_enter Tryz.func8, Tryz.ntmps8
  go_wp2_with fail
  refine (read_nil n _).mono ?_
  rintro e w1 ⟨rfl, rfl⟩
  go_wp2_with fail
  refine (mount_nil _).mono ?_
  rintro e w1 ⟨rfl, rfl⟩
  go_wp2_with fail
  refine (write_nil n _).mono ?_
  rintro e w1 ⟨rfl, rfl⟩
  go_wp2_with fail
  refine (trim_nil n _).mono ?_
  rintro e w1 ⟨rfl, rfl⟩
  go_wp2_with fail
  refine (flush_nil _).mono ?_
  rintro e w1 ⟨rfl, rfl⟩
  go_wp2_with fail
  refine (degraded_nil _).mono ?_
  rintro e w1 ⟨rfl, rfl⟩
  go_wp2_with fail
  refine (chip_nil _).mono ?_
  rintro e w1 ⟨rfl, rfl⟩
  go_wp2_with fail
  refine (logical_nil _).mono ?_
  rintro e w1 ⟨rfl, rfl⟩
  go_wp2_with fail
  refine (pages_nil _).mono ?_
  rintro e w1 ⟨rfl, rfl⟩
  go_wp2_with fail
  refine (awake13 _).mono ?_
  rintro e w1 ⟨rfl, hb⟩
  go_wp2_with fail
  go_ret
  exact ⟨rfl, hb⟩
end Go.Proofs.YthghhcnpbehaiaaGreat
