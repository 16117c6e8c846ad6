/- The sum of bytes. -/
import Derived.Test.YthghhcnpbehaiaaGreatFa03
import Derived.Laws.Closers25b

namespace Go.Proofs.YthghhcnpbehaiaaGreat
open Go.RowKit

def bit1 (s : Int) : Int := if bits .and .u32 s 1 = 1 then bits .xor .u32 (s / 2) 3988292384 else s / 2
def bit8 : Nat → Int → Int
  | 0, s => s
  | k + 1, s => bit1 (bit8 k s)
def crcStep (s x : Int) : Int := bit8 8 (bits .xor .u32 s x)
def crcFrom (s : Int) (l : List Int) : Int := l.foldl crcStep s
def crcOf (l : List Int) : Int := bits .xor .u32 IntKind.u32.max (crcFrom (bits .xor .u32 IntKind.u32.max 0) l)

theorem crcOf_lo (l : List Int) : 0 ≤ crcOf l := (bits_within .xor .u32 _ _).1
theorem crcOf_hi (l : List Int) : crcOf l ≤ 4294967295 := (bits_within .xor .u32 _ _).2
theorem crcFrom_succ {l : List Int} {k : Nat} {x s : Int} (h : l[k]? = some x) : crcFrom s (l.take (k + 1)) = crcStep (crcFrom s (l.take k)) x := by
  obtain ⟨hl, hx⟩ := List.getElem?_eq_some_iff.1 h
  rw [List.take_succ_eq_append_getElem hl, hx, crcFrom, crcFrom, List.foldl_append]; rfl

set_option maxHeartbeats 2000000 in
set_option maxRecDepth 100000 in
theorem more203 (l : List Int) (b off cap : Nat) (w : World) (hr : Row w b off (l.map u8)) (hl : l.length ≤ 100000) (hb : ∀ x ∈ l, 0 ≤ x ∧ x ≤ 255) (hne : 0 < l.length) :
    Calls Tryz.prog 203 #[.int .u32 0, .slice (some ⟨b, off, none⟩) l.length cap] w fun e w' => e = .returned (.int .u32 (crcOf l)) ∧ w = w' := by
  go_enter Tryz.func203, Tryz.ntmps203
  go_wp2_with fail
  go_loopw [5, 13] (fun r i wr => ∃ k : Nat, k ≤ l.length ∧ r = .int .u32 (crcFrom (bits .xor .u32 IntKind.u32.max 0) (l.take k)) ∧ i = .int .i64 k ∧ wr = w) (fun _ i _ => l.length - (RowKit.intOf i).toNat)
  case atStart => exact ⟨0, Nat.zero_le _, rfl, rfl, rfl⟩
  case round =>
    obtain ⟨k, hk, rfl, rfl, rfl⟩ := hrel
    have k0 : (0 : Int) ≤ (k : Int) := by omega
    by_cases hlt : k < l.length
    · obtain ⟨x, hx⟩ : ∃ x, l[k]? = some x := ⟨l[k], List.getElem?_eq_getElem hlt⟩
      have c0 : wr.cell? ⟨b, off + k, none⟩ = some (Value.int .u8 x) := hr.cell k (by rw [List.getElem?_map, hx]; rfl)
      have hxb := hb x (List.mem_of_getElem? hx)
      have hxw : IntKind.u32.wrap x = x := IntWalk.u32_in _ (by omega)
      have HS := Lib.hid (crcFrom_succ (s := bits .xor .u32 IntKind.u32.max 0) hx)
      have hkw : IntKind.i64.wrap ((k : Int) + 1) = ((k + 1 : Nat) : Int) := by rw [IntWalk.i64_in _ (by omega)]; omega
      generalize crcFrom (bits .xor .u32 IntKind.u32.max 0) (l.take k) = s0 at *
      go_wp2_with fail
      go_loopw [5, 21] (fun r i w2 => ∃ k2 : Nat, k2 ≤ 8 ∧ r = .int .u32 (bit8 k2 (bits .xor .u32 s0 x)) ∧ i = .int .i64 k2 ∧ w2 = wr) (fun _ i _ => 8 - (RowKit.intOf i).toNat)
      case atStart => exact ⟨0, Nat.zero_le _, rfl, rfl, rfl⟩
      case round =>
        obtain ⟨k2, hk2, rfl, rfl, rfl⟩ := hrel
        have k20 : (0 : Int) ≤ (k2 : Int) := by omega
        have e8 : bit8 (k2 + 1) (bits .xor .u32 s0 x) = bit1 (bit8 k2 (bits .xor .u32 s0 x)) := rfl
        by_cases hlt2 : k2 < 8
        · by_cases hbit : bits .and .u32 (bit8 k2 (bits .xor .u32 s0 x)) 1 = 1
          · rw [bit1, if_pos hbit] at e8
            have E8 := Lib.hid e8; clear e8
            generalize bit8 k2 (bits .xor .u32 s0 x) = s2 at *
            go_wp2_with fail
            refine ⟨⟨k2 + 1, by omega, by rw [E8.out], ?_, trivial⟩, by simp [RowKit.intOf]; omega⟩
            first | rfl | (congr 1; done) | (congr 1; omega)
          · rw [bit1, if_neg hbit] at e8
            have E8 := Lib.hid e8; clear e8
            generalize bit8 k2 (bits .xor .u32 s0 x) = s2 at *
            go_wp2_with fail
            refine ⟨⟨k2 + 1, by omega, by rw [E8.out], ?_, trivial⟩, by simp [RowKit.intOf]; omega⟩
            first | rfl | (congr 1; done) | (congr 1; omega)
        · have h8 : k2 = 8 := by omega
          subst h8
          go_wp2_with fail
          refine ⟨⟨k + 1, by omega, ?_, ?_, trivial⟩, by simp [RowKit.intOf]; omega⟩
          · rw [HS.out]; rfl
          · first | rfl | (congr 1; done) | (congr 1; omega)
    · have hkl : k = l.length := by omega
      subst hkl
      rw [List.take_length]
      go_wp2_with fail
      go_ret
      exact ⟨rfl, rfl⟩

theorem of179 (l : List Int) (b off cap : Nat) (w : World) (hr : Row w b off (l.map u8)) (hl : l.length ≤ 100000) (hb : ∀ x ∈ l, 0 ≤ x ∧ x ≤ 255) (hne : 0 < l.length) :
    Calls Tryz.prog 179 #[.slice (some ⟨b, off, none⟩) l.length cap] w fun e w' => e = .returned (.int .u32 (crcOf l)) ∧ w = w' := by
  go_enter Tryz.func179, Tryz.ntmps179
  go_wp2_with (go_at_call 203; refine (more203 l b off cap _ hr hl hb hne).mono ?_; rintro e w' ⟨rfl, rfl⟩)
  go_ret
  exact ⟨rfl, rfl⟩
end Go.Proofs.YthghhcnpbehaiaaGreat
