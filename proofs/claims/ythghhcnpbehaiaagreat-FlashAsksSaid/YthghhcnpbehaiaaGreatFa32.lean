/- wear: Spread, Due. -/
import Derived.Test.YthghhcnpbehaiaaGreatFa20

namespace Go.Proofs.YthghhcnpbehaiaaGreat
open Go.RowKit

theorem bestOf_neg (lt : Int → Int → Bool) (ws : Nat → Int) (p : Nat → Bool) : ∀ k, bestOf lt ws p k = -1 ↔ ∀ i, i < k → p i = false
  | 0 => by simp [bestOf]
  | k + 1 => by
    have ih := bestOf_neg lt ws p k
    have hr := bestOf_range lt ws p k
    have e : bestOf lt ws p (k + 1) = if p k && (decide (bestOf lt ws p k < 0) || lt (ws k) (ws (bestOf lt ws p k).toNat)) then (k : Int) else bestOf lt ws p k := rfl
    rw [e]
    constructor
    · intro h i hi
      split at h
      · omega
      · rename_i hc
        have h1 := ih.1 h
        by_cases hik : i = k
        · subst hik
          cases hp : p i
          · rfl
          · exfalso; apply hc; simp [hp, h]
        · exact h1 i (by omega)
    · intro h
      have h1 : bestOf lt ws p k = -1 := ih.2 fun i hi => h i (by omega)
      rw [h k (by omega)]; simp [h1]

/-- By how much wear differs. -/
def spreadOf (ws : Nat → Int) (p : Nat → Bool) (n : Nat) : Int :=
  if bestOf ltB ws p n < 0 then 0 else ws (bestOf gtB ws p n).toNat - ws (bestOf ltB ws p n).toNat

theorem ws_cell {w : World} {b : Nat} {ws : Nat → Int} {n : Nat} (h : Row w b 0 (((List.range n).map ws).map i64)) {i : Nat} (hi : i < n) : w.cell? ⟨b, i, none⟩ = some (i64 (ws i)) := h.cell0 i (by simp [hi])

set_option maxHeartbeats 2000000 in
set_option maxRecDepth 100000 in
theorem spread161 (ws : Nat → Int) (p : Nat → Bool) (n : Nat) (hn : n ≤ 100) (hws : ∀ i, i < n → 0 ≤ ws i ∧ ws i < 4611686018427387904) (b c1 g c2 : Nat) (w : World) (hw : Row w b 0 (((List.range n).map ws).map i64)) (hr : Row w g 0 ((these p n).map Value.bool)) :
    Calls Tryz.prog 161 #[.slice (some ⟨b, 0, none⟩) n c1, .slice (some ⟨g, 0, none⟩) n c2] w fun e w' => e = .returned (i64 (spreadOf ws p n)) ∧ Below w.heap.size w w' := by
  have hle := least124 ws p n hn b c1 g c2 w hw hr
  have hmo := fun W (hb : Below w.heap.size w W) => most198 ws p n hn b c1 g c2 W (hw.below hb) (hr.below hb)
  have hra := bestOf_range ltB ws p n
  have hrb := bestOf_range gtB ws p n
  have hab : bestOf ltB ws p n = -1 ↔ bestOf gtB ws p n = -1 := by rw [bestOf_neg, bestOf_neg]
  have hsp : spreadOf ws p n = if bestOf ltB ws p n < 0 then 0 else ws (bestOf gtB ws p n).toNat - ws (bestOf ltB ws p n).toNat := rfl
  generalize bestOf ltB ws p n = x at *
  generalize bestOf gtB ws p n = y at *
  have HLE := Lib.hid hle
  have HMO := Lib.hid hmo
  have HW := Lib.hid hw
  clear hle hmo hw hr
  by_cases h0 : x < 0
  · rw [if_pos h0] at hsp
    rw [hsp]
    clear hsp hab hra hrb
    go_enter Tryz.func161, Tryz.ntmps161
    go_wp2_with fail
    refine HLE.out.mono ?_
    rintro e w1 ⟨rfl, hb1⟩
    go_wp2_with fail
    refine (HMO.out _ hb1).mono ?_
    rintro e w2 ⟨rfl, hb2⟩
    go_wp2_with fail
    go_ret
    exact ⟨rfl, ext_call hb2 hb1.size hb1⟩
  · rw [if_neg h0] at hsp
    obtain ⟨i, hi⟩ : ∃ i : Nat, x = i := ⟨x.toNat, by omega⟩
    obtain ⟨j, hj⟩ : ∃ j : Nat, y = j := ⟨y.toNat, by omega⟩
    subst hi hj
    have hin : i < n := by rcases hra with h | ⟨_, h, _⟩; omega; omega
    have hjn : j < n := by rcases hrb with h | ⟨_, h, _⟩; omega; omega
    have hwi := hws i hin
    have hwj := hws j hjn
    simp only [Int.toNat_natCast] at hsp
    have hwr : IntKind.i64.wrap (ws j - ws i) = ws j - ws i := IntWalk.i64_in _ (by omega)
    rw [hsp]
    have i0 : (0 : Int) ≤ (i : Int) := by omega
    have j0 : (0 : Int) ≤ (j : Int) := by omega
    have in' : (i : Int) < (n : Int) := by omega
    have jn' : (j : Int) < (n : Int) := by omega
    clear hsp hab hra hrb hws h0 hwi hwj
    go_enter Tryz.func161, Tryz.ntmps161
    go_wp2_with fail
    refine HLE.out.mono ?_
    rintro e w1 ⟨rfl, hb1⟩
    go_wp2_with fail
    refine (HMO.out _ hb1).mono ?_
    rintro e w2 ⟨rfl, hb2⟩
    have hW2 := (HW.out.below hb1).below hb2
    have ci := ws_cell hW2 hin
    have cj := ws_cell hW2 hjn
    clear hW2
    go_wp2_with fail
    go_quiet (fail)
    go_wp2_with fail
    go_ret
    exact ⟨rfl, below_drewN' (ext_call hb2 hb1.size hb1) _⟩

set_option maxHeartbeats 2000000 in
set_option maxRecDepth 100000 in
theorem due122 (ws : Nat → Int) (p : Nat → Bool) (n : Nat) (hn : n ≤ 100) (hws : ∀ i, i < n → 0 ≤ ws i ∧ ws i < 4611686018427387904) (t : Int) (b c1 g c2 : Nat) (w : World) (hw : Row w b 0 (((List.range n).map ws).map i64)) (hr : Row w g 0 ((these p n).map Value.bool)) :
    Calls Tryz.prog 122 #[.slice (some ⟨b, 0, none⟩) n c1, .slice (some ⟨g, 0, none⟩) n c2, i64 t] w fun e w' => e = .returned (.bool (decide (t < spreadOf ws p n))) ∧ Below w.heap.size w w' := by
  have hs := spread161 ws p n hn hws b c1 g c2 w hw hr
  have HS := Lib.hid hs
  clear hs hw hr hws
  go_enter Tryz.func122, Tryz.ntmps122
  go_wp2_with fail
  refine HS.out.mono ?_
  rintro e w1 ⟨rfl, hb1⟩
  go_wp2_with fail
  go_ret
  exact ⟨rfl, hb1⟩
end Go.Proofs.YthghhcnpbehaiaaGreat
