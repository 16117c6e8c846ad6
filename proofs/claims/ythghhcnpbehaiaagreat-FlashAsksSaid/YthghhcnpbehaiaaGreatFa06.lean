/- Tags: numbers as bytes. -/
import Derived.Test.YthghhcnpbehaiaaGreatFa04
import Derived.Test.YthghhcnpbehaiaaGreatFa05
import Derived.Test.YthghhcnpbehaiaaGreatFa01
import Derived.Laws.Closers25b
import Derived.Deep.AppendLies

namespace Go.Proofs.YthghhcnpbehaiaaGreat
open Go.RowKit

def numFrom (n : Int) (l : List Int) : Int := l.foldl (fun n x => n * 256 + x) n
def numOf (l : List Int) : Int := numFrom 0 l
theorem numFrom_succ {l : List Int} {k : Nat} {x n : Int} (h : l[k]? = some x) : numFrom n (l.take (k + 1)) = numFrom n (l.take k) * 256 + x := by
  obtain ⟨hl, hx⟩ := List.getElem?_eq_some_iff.1 h
  rw [List.take_succ_eq_append_getElem hl, hx, numFrom, numFrom, List.foldl_append]; rfl

theorem or_byte (n x : Int) (h0 : 0 ≤ n) (h1 : n < 1099511627776) (x0 : 0 ≤ x) (x1 : x ≤ 255) : bits .or .i64 (n * 256) x = n * 256 + x := by
  obtain ⟨a, rfl⟩ := Int.eq_ofNat_of_zero_le h0
  obtain ⟨c, rfl⟩ := Int.eq_ofNat_of_zero_le x0
  have e1 : (BitVec.ofInt 64 ((a : Int) * 256)).toNat = a * 256 := by
    rw [show ((a : Int) * 256) = ((a * 256 : Nat) : Int) by omega, BitVec.ofInt_natCast, BitVec.toNat_ofNat]; exact Nat.mod_eq_of_lt (by omega)
  have e2 : (BitVec.ofInt 64 (c : Int)).toNat = c := by
    rw [BitVec.ofInt_natCast, BitVec.toNat_ofNat]; exact Nat.mod_eq_of_lt (by omega)
  have e3 : a * 256 ||| c = a * 256 + c := by
    have := Nat.two_pow_add_eq_or_of_lt (i := 8) (b := c) (by omega) a
    rw [show 2 ^ 8 * a = a * 256 by omega] at this
    exact this.symm
  show IntKind.i64.wrap ((BitVec.ofInt 64 ((a : Int) * 256) ||| BitVec.ofInt 64 (c : Int)).toNat : Int) = _
  rw [BitVec.toNat_or, e1, e2, e3, IntWalk.i64_in _ (by omega)]
  omega

theorem numFrom_bound : ∀ (l : List Int) (n : Int), 0 ≤ n → (∀ x ∈ l, 0 ≤ x ∧ x ≤ 255) → 0 ≤ numFrom n l ∧ numFrom n l < (n + 1) * 256 ^ l.length
  | [], n, h, _ => by simp [numFrom]; omega
  | x :: l, n, h, hx => by
    have h1 := hx x (by simp)
    have := numFrom_bound l (n * 256 + x) (by omega) (fun y hy => hx y (by simp [hy]))
    refine ⟨this.1, Int.lt_of_lt_of_le this.2 ?_⟩
    rw [List.length_cons, Int.pow_succ, Int.mul_comm (256 ^ l.length) 256, ← Int.mul_assoc]
    exact Int.mul_le_mul_of_nonneg_right (by omega) (Int.pow_nonneg (by omega))

set_option maxHeartbeats 2000000 in
set_option maxRecDepth 100000 in
theorem number178 (l : List Int) (b off cap : Nat) (w : World) (hr : Row w b off (l.map u8)) (hl : l.length ≤ 4) (hb : ∀ x ∈ l, 0 ≤ x ∧ x ≤ 255) :
    Calls Tryz.prog 178 #[.slice (some ⟨b, off, none⟩) l.length cap] w fun e w' => e = .returned (i64 (numOf l)) ∧ w = w' := by
  go_enter Tryz.func178, Tryz.ntmps178
  go_wp2_with fail
  go_loopw [3, 8] (fun r i wr => ∃ k : Nat, k ≤ l.length ∧ r = .int .i64 (numFrom 0 (l.take k)) ∧ i = .int .i64 k ∧ wr = w) (fun _ i _ => l.length - (RowKit.intOf i).toNat)
  case atStart => exact ⟨0, Nat.zero_le _, rfl, rfl, rfl⟩
  case round =>
    obtain ⟨k, hk, rfl, rfl, rfl⟩ := hrel
    have k0 : (0 : Int) ≤ (k : Int) := by omega
    by_cases hlt : k < l.length
    · obtain ⟨x, hx⟩ : ∃ x, l[k]? = some x := ⟨l[k], List.getElem?_eq_getElem hlt⟩
      have c0 : wr.cell? ⟨b, off + k, none⟩ = some (Value.int .u8 x) := hr.cell k (by rw [List.getElem?_map, hx]; rfl)
      have hxb := hb x (List.mem_of_getElem? hx)
      have HS := Lib.hid (numFrom_succ (n := 0) hx)
      have hbd := numFrom_bound (l.take k) 0 (by omega) (fun y hy => hb y (List.mem_of_mem_take hy))
      have hlen : (l.take k).length ≤ 3 := by simp; omega
      have hn3 : numFrom 0 (l.take k) < 16777216 := by
        refine Int.lt_of_lt_of_le hbd.2 ?_
        have : (256 : Int) ^ (l.take k).length ≤ 256 ^ 3 := by
          have hh : (l.take k).length = 0 ∨ (l.take k).length = 1 ∨ (l.take k).length = 2 ∨ (l.take k).length = 3 := by omega
          rcases hh with h | h | h | h <;> rw [h] <;> decide
        omega
      have hn0 := hbd.1
      clear hbd
      generalize numFrom 0 (l.take k) = n0 at *
      have hor := or_byte n0 x hn0 (by omega) hxb.1 hxb.2
      have hxw : IntKind.i64.wrap x = x := IntWalk.i64_in _ (by omega)
      have hsw : IntKind.i64.wrap (n0 * 256) = n0 * 256 := IntWalk.i64_in _ (by omega)
      have hkw : IntKind.i64.wrap ((k : Int) + 1) = ((k + 1 : Nat) : Int) := by rw [IntWalk.i64_in _ (by omega)]; omega
      go_wp2_with fail
      refine ⟨⟨k + 1, by omega, by rw [HS.out], ?_, trivial⟩, by simp [RowKit.intOf]; omega⟩
      first | rfl | (congr 1; done) | (congr 1; omega)
    · have hkl : k = l.length := by omega
      subst hkl
      rw [List.take_length]
      go_wp2_with fail
      go_ret
      exact ⟨rfl, rfl⟩

/-- A number as so many bytes, the highest first. -/
def be : Nat → Int → List Int
  | 0, _ => []
  | s + 1, n => n / 2 ^ (8 * s) % 256 :: be s n
theorem be_length : ∀ (s : Nat) (n : Int), (be s n).length = s
  | 0, _ => rfl
  | s + 1, n => by rw [be, List.length_cons, be_length s n]
theorem be_byte : ∀ (s : Nat) (n : Int), ∀ x ∈ be s n, 0 ≤ x ∧ x ≤ 255
  | 0, _, x, h => by simp [be] at h
  | s + 1, n, x, h => by
    rw [be, List.mem_cons] at h
    rcases h with rfl | h
    · have h1 := Int.emod_nonneg (n / 2 ^ (8 * s)) (b := 256) (by omega)
      have h2 := Int.emod_lt_of_pos (n / 2 ^ (8 * s)) (b := 256) (by omega)
      omega
    · exact be_byte s n x h

set_option maxHeartbeats 2000000 in
set_option maxRecDepth 100000 in
theorem put221 (B : Nat) (v : Value) (k : Nat) (xs : List Int) (n : Int) (size : Nat) (hs : size ≤ 4) (w : World) (hown : w.ownsRow B 5 1 v k (xs.map u8)) (hB : B ≤ w.heap.size) (hk : k ≤ 1000) (n0 : 0 ≤ n) (n1 : n < 4611686018427387904) :
    Calls Tryz.prog 221 #[v, i64 n, i64 size] w fun e w' => (∃ v', e = .returned v' ∧ w'.ownsRow B 5 1 v' (k + size) ((xs ++ be size n).map u8)) ∧ Below B w w' := by
  obtain ⟨i0, hi, hz0, hz1, hz2⟩ := info_parts info5
  have hsw : IntKind.i64.wrap ((size : Int) - 1) = (size : Int) - 1 := IntWalk.i64_in _ (by omega)
  go_enter Tryz.func221, Tryz.ntmps221
  go_wp2_with fail
  go_loopw [0, 7] (fun r i wr => ∃ (s : Nat) (ys : List Int), s ≤ size ∧ i = .int .i64 ((s : Int) - 1) ∧ ys ++ be s n = xs ++ be size n ∧ wr.ownsRow B 5 1 r (k + (size - s)) (ys.map u8) ∧ Below B w wr) (fun _ i _ => (RowKit.intOf i + 1).toNat)
  case atStart => exact ⟨size, xs, Nat.le_refl _, rfl, rfl, by simpa using hown, Below.refl _ _⟩
  case round =>
    obtain ⟨s, ys, hs1, rfl, hys, hown1, hbl⟩ := hrel
    by_cases h0 : s = 0
    · subst h0
      go_wp2_with fail
      go_ret
      simp only [be, List.append_nil] at hys
      subst hys
      exact ⟨⟨_, rfl, hown1⟩, hbl⟩
    · obtain ⟨s, rfl⟩ : ∃ s', s = s' + 1 := ⟨s - 1, by omega⟩
      have s0 : (0 : Int) ≤ (s : Int) := by omega
      have e1 : ((s + 1 : Nat) : Int) - 1 = s := by omega
      have hz := hbl.size
      rw [e1]
      have hm : IntKind.i64.wrap (8 * (s : Int)) = 8 * s := IntWalk.i64_in _ (by omega)
      have hd : IntKind.i64.wrap ((s : Int) - 1) = (s : Int) - 1 := IntWalk.i64_in _ (by omega)
      have hys' : (ys ++ [n / 2 ^ (8 * s) % 256]) ++ be s n = xs ++ be size n := by rw [← hys, be]; simp
      have HYS := Lib.hid hys'
      have HOWN := Lib.hid hown1
      clear hys hys'
      go_wp2_with (at_builtin; refine wpList_append_own _ rfl _ _ 37 rfl B 5 i0 (.int .u8 0) 1 1 Tryz.underlying37 hi hz0 hz1 hz2 rfl (by decide) _ _ _ rfl (HOWN.out.alloc _) ⟨wr.heap.size, 0, none⟩ 1 1 [Value.int .u8 (n / 2 ^ (8 * s) % 256)] rfl rfl ?c3 ?c4 (by unfold maxLen; omega) (by omega) (by simp; omega) ?_)
      case c3 =>
        intro j u hj
        cases j with
        | zero => cases hj; simp [Addr.add]
        | succ j => simp at hj
      case c4 => intro u hu; simp at hu; subst hu; rfl
      intro v' w1 hown' hg hnil
      clear hnil
      have hbel : Below B w w1 := (hbl.alloc (by omega) _).trans (grown_below hg (by simp; omega) (fun g hg' => (HOWN.out.lt g hg').1))
      have HO2 := Lib.hid hown'
      clear hown' hg
      go_wp2
      refine ⟨⟨s, ys ++ [n / 2 ^ (8 * s) % 256], by omega, rfl, HYS.out, ?_, hbel⟩, by first | (simp [RowKit.intOf]; done) | (simp [RowKit.intOf]; omega)⟩
      have := HO2.out
      rw [show k + (size - (s + 1)) + 1 = k + (size - s) by omega] at this
      rw [List.map_append]
      exact this
end Go.Proofs.YthghhcnpbehaiaaGreat

/- Tags: may they be; laid. -/
namespace Go.Proofs.YthghhcnpbehaiaaGreat
open Go.RowKit

structure Tag where
  (kind page seq epoch : Int)
  deriving DecidableEq
abbrev Tag.v (t : Tag) : Value := .agg #[i64 t.kind, i64 t.page, i64 t.seq, i64 t.epoch]
structure Tag.Ok (t : Tag) : Prop where
  k1 : 1 ≤ t.kind
  k3 : t.kind ≤ 3
  p0 : 0 ≤ t.page
  p1 : t.page ≤ 65535
  c : t.kind = 3 → t.page = 0
  s0 : 0 ≤ t.seq
  s1 : t.seq ≤ 4294967295
  e0 : 0 ≤ t.epoch
  e1 : t.epoch ≤ 16777215

theorem in175_yes (a b c : Int) (h1 : b ≤ a) (h2 : a ≤ c) (w : World) : Calls Tryz.prog 175 #[i64 a, i64 b, i64 c] w fun e w' => e = .returned (.bool true) ∧ w = w' := by
  refine (in175_any a b c w).mono ?_
  rintro e w' ⟨rfl, rfl⟩
  refine ⟨?_, rfl⟩
  have e1 : inB a b c = true := by simp [inB, h1, h2]
  rw [e1]

set_option maxHeartbeats 2000000 in
set_option maxRecDepth 100000 in
theorem may180 (t : Tag) (h : t.Ok) (w : World) : Calls Tryz.prog 180 #[t.v] w fun e w' => e = .returned (.bool true) ∧ Below w.heap.size w w' := by
  obtain ⟨k1, k3, p0, p1, c, s0, s1, e0, e1⟩ := h
  go_enter Tryz.func180, Tryz.ntmps180
  by_cases hk : t.kind = 3
  · have hp := c hk
    go_wp2_with (go_at_call 175; refine (in175_yes _ _ _ (by omega) (by omega) _).mono ?_; rintro e w' ⟨rfl, rfl⟩)
    go_ret
    exact ⟨by simp [*], by (repeat (first | exact Below.refl _ _ | assumption | (with_reducible refine Below.drew ?_) | (with_reducible refine below_drewN' ?_ _) | (with_reducible refine ext_alloc ?_ ?_; · (first | omega | (simp only [World.size_alloc, World.size_setCell, World.size_drew, World.heap_drewN]; omega) | (simp; omega))) | (with_reducible refine ext_setCell ?_ ?_; · (first | omega | (simp only [World.size_alloc, World.size_setCell, World.size_drew, World.heap_drewN]; omega) | (simp; omega))) | (refine ext_call (by assumption) ?_ ?_; · (first | omega | (simp only [World.size_alloc, World.size_setCell, World.size_drew, World.heap_drewN]; omega) | (simp; omega)))))⟩
  · go_wp2_with (go_at_call 175; refine (in175_yes _ _ _ (by omega) (by omega) _).mono ?_; rintro e w' ⟨rfl, rfl⟩)
    go_ret
    exact ⟨by simp [*], by (repeat (first | exact Below.refl _ _ | assumption | (with_reducible refine Below.drew ?_) | (with_reducible refine below_drewN' ?_ _) | (with_reducible refine ext_alloc ?_ ?_; · (first | omega | (simp only [World.size_alloc, World.size_setCell, World.size_drew, World.heap_drewN]; omega) | (simp; omega))) | (with_reducible refine ext_setCell ?_ ?_; · (first | omega | (simp only [World.size_alloc, World.size_setCell, World.size_drew, World.heap_drewN]; omega) | (simp; omega))) | (refine ext_call (by assumption) ?_ ?_; · (first | omega | (simp only [World.size_alloc, World.size_setCell, World.size_drew, World.heap_drewN]; omega) | (simp; omega)))))⟩

set_option maxHeartbeats 2000000 in
set_option maxRecDepth 100000 in
theorem clone70o {w : World} (l : List Int) (b off cap : Nat) (hr : Row w b off (l.map u8)) (hl : l.length ≤ 100000) (hne : 0 < l.length) :
    Calls Tryz.prog 70 #[.slice (some ⟨b, off, none⟩) l.length cap] w fun e w' => (∃ v, e = .returned v ∧ w'.ownsRow w.heap.size 5 1 v l.length (l.map u8)) ∧ Below w.heap.size w w' := by
  have hlt : b < w.heap.size := hr.lt (by intro e; rw [List.map_eq_nil_iff.1 e] at hne; exact absurd hne (by decide))
  obtain ⟨i0, hi, hz0, hz1, hz2⟩ := info_parts info5
  have hown : (w.alloc (.cells #[] 5)).ownsRow w.heap.size 5 1 (.slice (some ⟨w.heap.size, 0, none⟩) 0 0) 0 [] :=
    ⟨rfl, .inr ⟨w.heap.size, 0, #[], rfl, Nat.le_refl _, heap_new _ _, Nat.le_refl _, by decide, rfl, rfl⟩⟩
  have hcells : ∀ j u, (l.map u8)[j]? = some u → (w.alloc (.cells #[] 5)).cell? ((⟨b, off, none⟩ : Addr).add j) = some u := by
    intro j u hj
    have e : (⟨b, off, none⟩ : Addr).add j = ⟨b, off + j, none⟩ := by unfold Addr.add; split <;> simp [*]
    rw [e, World.cell?_alloc_lt _ _ _ hlt]
    exact (hr j u hj).1
  have H1 := Lib.hid hcells; clear hcells
  have H2 := Lib.hid hr; clear hr
  have hnl := Lib.run_eql_slice_nil (P := Tryz.prog)
  go_enter Tryz.func70, Tryz.ntmps70
  go_wp2_with (at_builtin; refine wpList_append_own _ rfl _ _ 37 rfl w.heap.size 5 i0 (.int .u8 0) 1 1 Tryz.underlying37 hi hz0 hz1 hz2 rfl (by decide) _ _ _ rfl hown ⟨b, off, none⟩ l.length cap (l.map u8) rfl (by simp) H1.out ?c4 (by unfold maxLen; omega) (by omega) (by simp) ?_)
  case c4 => intro u hu; obtain ⟨x, _, rfl⟩ := List.mem_map.1 hu; rfl
  intro v' w1 hown1 hg hnil
  have hbel : Below w.heap.size w w1 := ((Below.refl _ _).alloc (Nat.le_refl _) _).trans (grown_below hg (by simp) (fun g hg => by simp [Value.ownBlock] at hg; omega))
  have H3 := Lib.hid hown1
  clear hnil hown1 hg
  go_wp2
  go_ret
  refine ⟨⟨_, rfl, ?_⟩, hbel⟩
  have := H3.out
  exact this

def bodyOf (d : List Int) (t : Tag) : List Int := d ++ [74, t.kind] ++ be 2 t.page ++ be 4 t.seq ++ be 3 t.epoch
def rawOf (d : List Int) (t : Tag) : List Int := bodyOf d t ++ be 4 (crcOf (bodyOf d t)) ++ [0]

theorem own_mono {w : World} {base base' : Nat} {e : TypeId} {size : Nat} {v : Value} {n : Nat} {xs : List Value} (h : w.ownsRow base e size v n xs) (hb : base' ≤ base) : w.ownsRow base' e size v n xs :=
  ⟨h.1, h.2.imp id fun ⟨g, cap, cur, h1, h2, r⟩ => ⟨g, cap, cur, h1, Nat.le_trans hb h2, r⟩⟩
theorem own_below {w w' : World} {base : Nat} {e : TypeId} {size : Nat} {v : Value} {n : Nat} {xs : List Value} (h : w.ownsRow base e size v n xs) (hb : Below w.heap.size w w') : w'.ownsRow base e size v n xs :=
  h.kept (row := none) ⟨hb.os, hb.tape, hb.output, hb.size, fun k hk _ => hb.block k hk⟩ (by cases v.ownBlock <;> simp)

structure J3 (w0 : World) (l : List Int) (kd : Int) (e : Env) (w : World) : Prop where
  low : Below w0.heap.size w0 w
  o1 : ∀ u, e 1 = some u → w.ownsRow w0.heap.size 5 1 u l.length (l.map u8)
  o5 : ∀ u, e 5 = some u → ∃ q, u = .slice (some ⟨q, 0, none⟩) 2 2 ∧ Row w q 0 [u8 74, u8 kd]
theorem J3.grow {w0 w w' : World} {l : List Int} {kd : Int} {e : Env} (h : J3 w0 l kd e w) (hb : Below w.heap.size w w') : J3 w0 l kd e w' :=
  ⟨ext_call hb h.low.size h.low, fun u hu => own_below (h.o1 u hu) hb, fun u hu => by obtain ⟨q, h1, h2⟩ := h.o5 u hu; exact ⟨q, h1, h2.below hb⟩⟩

structure J4 (w0 : World) (B : Nat) (v0 : Value) (k : Nat) (xs : List Int) (pg sq : Int) (e : Env) (w : World) : Prop where
  low : Below B w0 w
  o0 : e 3 = none → w.ownsRow B 5 1 v0 k (xs.map u8)
  o3 : ∀ u, e 3 = some u → e 6 = none → w.ownsRow B 5 1 u (k + 2) ((xs ++ be 2 pg).map u8)
  o6 : ∀ u, e 6 = some u → e 3 ≠ none ∧ w.ownsRow B 5 1 u (k + 2 + 4) ((xs ++ be 2 pg ++ be 4 sq).map u8)

set_option maxHeartbeats 2000000 in
set_option maxRecDepth 100000 in
theorem lay196 (t : Tag) (h : t.Ok) (l : List Int) (b off cap : Nat) (w : World) (hr : Row w b off (l.map u8)) (hl : 24 ≤ l.length ∧ l.length ≤ 64) (hb : ∀ x ∈ l, 0 ≤ x ∧ x ≤ 255) :
    Calls Tryz.prog 196 #[.slice (some ⟨b, off, none⟩) l.length cap, t.v] w fun e w' => (∃ v, e = .returned (.tuple #[v, i64 0]) ∧ Fresh w.heap.size w' (rawOf l t) v) ∧ Below w.heap.size w w' := by
  obtain ⟨l1, l2⟩ := hl
  have l1' : (24 : Int) ≤ (l.length : Int) := by omega
  have l2' : (l.length : Int) ≤ 64 := by omega
  go_enter Tryz.func196, Tryz.ntmps196
  go_wp2_with fail
  refine (in175_yes _ _ _ l1' l2' _).mono ?_; rintro e w' ⟨rfl, rfl⟩
  go_wp2_with fail
  refine (may180 t h _).mono ?_
  rintro e w1 ⟨rfl, hb1⟩
  have hw1 : Below w.heap.size w w1 := by (repeat (first | exact Below.refl _ _ | assumption | (with_reducible refine Below.drew ?_) | (with_reducible refine below_drewN' ?_ _) | (with_reducible refine ext_alloc ?_ ?_; · (first | omega | (simp only [World.size_alloc, World.size_setCell, World.size_drew, World.heap_drewN]; omega) | (simp; omega))) | (with_reducible refine ext_setCell ?_ ?_; · (first | omega | (simp only [World.size_alloc, World.size_setCell, World.size_drew, World.heap_drewN]; omega) | (simp; omega))) | (refine ext_call (by assumption) ?_ ?_; · (first | omega | (simp only [World.size_alloc, World.size_setCell, World.size_drew, World.heap_drewN]; omega) | (simp; omega)))))
  have z1 : w.heap.size < w1.heap.size := by have := hb1.size; simp at this; omega
  have k0 : w1.cell? ⟨w.heap.size, 0, none⟩ = some (i64 t.kind) := keepc hb1 (by simp)
  have k1 : w1.cell? ⟨w.heap.size, 1, none⟩ = some (i64 t.page) := keepc hb1 (by simp)
  have k2 : w1.cell? ⟨w.heap.size, 2, none⟩ = some (i64 t.seq) := keepc hb1 (by simp)
  have k3 : w1.cell? ⟨w.heap.size, 3, none⟩ = some (i64 t.epoch) := keepc hb1 (by simp)
  have hr1 := hr.below hw1
  go_wp2_with fail
  have hkw : IntKind.u8.wrap t.kind = t.kind := IntWalk.u8_in _ (by have := h.k1; have := h.k3; omega)
  have rvJ : ∀ e' w', J3 w1 l t.kind e' w' → w'.cell? ⟨w.heap.size, 0, none⟩ = some (i64 t.kind) := fun e' w' hJ => keepc hJ.low k0
  apply wp_region_rel 6 (J3 w1 l t.kind) [[], [0], [], [2], [3], [4]]
  · kernel_rfl
  · kernel_rfl
  · exact ⟨(Below.refl _ _).drew, by simp, by simp⟩
  · kernel_rfl
  simp only [List.take_succ_cons, List.take_zero, List.drop_succ_cons, List.drop_zero]
  iterate 1 (apply rel_val; (· rfl); (· (intro e' w' hD he hJ; skip; refine relv_of (by (go_simp; first | rfl | exact ⟨rfl, rfl⟩)) ⟨rfl, ?_⟩; exact ⟨hJ.low, hJ.o1, hJ.o5⟩)); simp only [Act.put, List.setIfInBounds_toArray, List.set_cons_zero, List.set_cons_succ])
  apply rel_yes (φ := fun _ u => ∃ g c, u = .slice (some ⟨g, 0, none⟩) l.length c)
  · rfl
  · exact ⟨_, 0, 0, rfl⟩
  · intro e' w' hD he hJ
    refine rel_call (by (go_simp; first | rfl | exact ⟨⟨rfl, rfl⟩, rfl⟩)) ?_
    refine (clone70o l b off cap (hr1.below hJ.low) (by omega) (by omega)).mono ?_
    rintro e w'' ⟨⟨v, rfl, hown⟩, hbb⟩
    obtain ⟨gg, cc, rfl⟩ := own_some hown (by intro e; subst e; have := hown.2; rcases this with ⟨_, h0⟩ | ⟨_, _, _, h0, _⟩; omega; cases h0)
    refine ⟨_, rfl, ⟨gg, cc, rfl⟩, ⟨(hJ.grow hbb).low, ?_, (hJ.grow hbb).o5⟩⟩
    intro u hu
    rw [Env.put_self] at hu; cases hu
    exact own_mono hown hJ.low.size
  rintro v ⟨g1, c1, rfl⟩
  simp only [Act.put, List.setIfInBounds_toArray, List.set_cons_zero, List.set_cons_succ]
  iterate 3 (apply rel_val; (· rfl); (· (intro e' w' hD he hJ; have k0' := rvJ _ _ hJ; refine relv_of (by (go_simp; first | rfl | exact ⟨rfl, rfl⟩)) ⟨rfl, ?_⟩; exact ⟨hJ.low, hJ.o1, hJ.o5⟩)); simp only [Act.put, List.setIfInBounds_toArray, List.set_cons_zero, List.set_cons_succ])
  apply rel_yes (φ := fun _ u => ∃ g, u = .slice (some ⟨g, 0, none⟩) 2 2)
  · rfl
  · exact ⟨_, 0, rfl⟩
  · intro e' w' hD he hJ
    refine relv_of (by (go_simp; first | rfl | exact ⟨rfl, rfl⟩)) ⟨⟨_, rfl⟩, ?_⟩
    have hG := hJ.grow (w' := w'.alloc (.cells #[u8 74, u8 t.kind] 5)) ((Below.refl _ _).alloc (Nat.le_refl _) _)
    refine ⟨hG.low, hG.o1, ?_⟩
    intro u hu
    rw [Env.put_self] at hu; cases hu
    exact ⟨_, rfl, Row.new _ _ _⟩
  rintro v ⟨q1, rfl⟩
  simp only [Act.put, List.setIfInBounds_toArray, List.set_cons_zero, List.set_cons_succ]
  apply rel_nil
  intro w2 hJ
  have hbl2 := hJ.low
  have own2 := hJ.o1 (.slice (some ⟨g1, 0, none⟩) l.length c1) rfl
  obtain ⟨q2, hq2, hrow2⟩ := hJ.o5 (.slice (some ⟨q1, 0, none⟩) 2 2) rfl
  cases hq2
  clear hJ rvJ
  obtain ⟨i0, hi, hz0, hz1, hz2⟩ := info_parts info5
  have hsrc : ∀ j v, [u8 74, u8 t.kind][j]? = some v → w2.cell? ((⟨q1, 0, none⟩ : Addr).add j) = some v := fun j v hj => by
    rw [show ((⟨q1, 0, none⟩ : Addr).add j) = ⟨q1, 0 + j, none⟩ by unfold Addr.add; split <;> simp [*]]
    exact (hrow2 j v hj).1
  have HSRC := Lib.hid hsrc
  have HOWN2 := Lib.hid own2
  have z2 := hbl2.size
  replace k0 := keepc hbl2 k0
  replace k1 := keepc hbl2 k1
  replace k2 := keepc hbl2 k2
  replace k3 := keepc hbl2 k3
  have hw2 : Below w1.heap.size w1 w2 := hbl2
  clear hsrc own2 hbl2
  go_wp2_with (at_builtin; refine wpList_append_own _ rfl _ _ 37 rfl w1.heap.size 5 i0 (.int .u8 0) 1 1 Tryz.underlying37 hi hz0 hz1 hz2 rfl (by decide) _ _ _ rfl HOWN2.out ⟨q1, 0, none⟩ 2 2 [u8 74, u8 t.kind] rfl rfl HSRC.out ?c4 (by unfold maxLen; omega) (by omega) z2 ?_)
  case c4 => intro u hu; simp at hu; rcases hu with rfl | rfl <;> rfl
  intro v3 w3 hown3 hg3 hnil
  clear hnil
  have hb3 : Below w1.heap.size w2 w3 := grown_below hg3 z2 (fun g hg' => (HOWN2.out.lt g hg').1)
  have z3 := hb3.size
  have lt1 : w.heap.size < w1.heap.size := z1
  have far : ∀ {wx : World}, Below w1.heap.size w2 wx → wx.cell? ⟨w.heap.size, 1, none⟩ = some (i64 t.page) ∧ wx.cell? ⟨w.heap.size, 2, none⟩ = some (i64 t.seq) ∧ wx.cell? ⟨w.heap.size, 3, none⟩ = some (i64 t.epoch) := fun hb => ⟨(hb.cell lt1).trans k1, (hb.cell lt1).trans k2, (hb.cell lt1).trans k3⟩
  have own3 : w3.ownsRow w1.heap.size 5 1 v3 (l.length + 2) ((l ++ [74, t.kind]).map u8) := by rw [List.map_append]; exact hown3
  have HOWN3 := Lib.hid own3
  clear hg3 hown3 own3
  go_wp2_with fail
  apply wp_region_rel 9 (J4 w2 w1.heap.size v3 (l.length + 2) (l ++ [74, t.kind]) t.page t.seq) [[], [], [1], [0, 2], [], [4], [3, 5], [], [7]]
  · kernel_rfl
  · kernel_rfl
  · exact ⟨hb3.drew, fun _ => HOWN3.out, by simp, by simp⟩
  · kernel_rfl
  simp only [List.take_succ_cons, List.take_zero, List.drop_succ_cons, List.drop_zero]
  iterate 3 (apply rel_val; (· rfl); (· (intro e' w' hD he hJ; obtain ⟨k1', k2', k3'⟩ := far hJ.low; refine relv_of (by (go_simp; first | rfl | exact ⟨rfl, rfl⟩)) ⟨rfl, ?_⟩; exact ⟨hJ.low, hJ.o0, hJ.o3, hJ.o6⟩)); simp only [Act.put, List.setIfInBounds_toArray, List.set_cons_zero, List.set_cons_succ])
  apply rel_yes (φ := fun _ _ => True)
  · rfl
  · exact ⟨undef, trivial⟩
  · intro e' w' hD he hJ
    refine rel_call (by (go_simp; first | rfl | exact ⟨⟨rfl, rfl⟩, rfl⟩)) ?_
    refine (put221 w1.heap.size v3 (l.length + 2) _ t.page 2 (by omega) w' (hJ.o0 he) (by have := hJ.low.size; omega) (by omega) h.p0 (by have := h.p1; omega)).mono ?_
    rintro e w'' ⟨⟨v, rfl, hown⟩, hbb⟩
    exact ⟨_, rfl, trivial, hJ.low.trans hbb, fun h0 => (by rw [Env.put_self] at h0; cases h0), fun u hu h6 => (by rw [Env.put_self] at hu; cases hu; exact hown), fun u hu => absurd he (hJ.o6 u hu).1⟩
  intro v4 _
  simp only [Act.put, List.setIfInBounds_toArray, List.set_cons_zero, List.set_cons_succ]
  iterate 2 (apply rel_val; (· rfl); (· (intro e' w' hD he hJ; obtain ⟨k1', k2', k3'⟩ := far hJ.low; refine relv_of (by (go_simp; first | rfl | exact ⟨rfl, rfl⟩)) ⟨rfl, ?_⟩; exact ⟨hJ.low, hJ.o0, hJ.o3, hJ.o6⟩)); simp only [Act.put, List.setIfInBounds_toArray, List.set_cons_zero, List.set_cons_succ])
  apply rel_yes (φ := fun _ _ => True)
  · rfl
  · exact ⟨undef, trivial⟩
  · intro e' w' hD he hJ
    refine rel_call (by (go_simp; first | rfl | exact ⟨⟨rfl, rfl⟩, rfl⟩)) ?_
    have h3 : e' 3 = some v4 := hD 3 (by simp)
    refine (put221 w1.heap.size v4 (l.length + 2 + 2) _ t.seq 4 (by omega) w' (hJ.o3 _ h3 he) (by have := hJ.low.size; omega) (by omega) h.s0 (by have := h.s1; omega)).mono ?_
    rintro e w'' ⟨⟨v, rfl, hown⟩, hbb⟩
    exact ⟨_, rfl, trivial, hJ.low.trans hbb, fun h0 => (by rw [Env.put_ne _ (by decide), h3] at h0; cases h0), fun u hu h6 => (by rw [Env.put_self] at h6; cases h6), fun u hu => (by rw [Env.put_self] at hu; cases hu; exact ⟨by rw [Env.put_ne _ (by decide), h3]; simp, hown⟩)⟩
  intro v5 _
  simp only [Act.put, List.setIfInBounds_toArray, List.set_cons_zero, List.set_cons_succ]
  iterate 2 (apply rel_val; (· rfl); (· (intro e' w' hD he hJ; obtain ⟨k1', k2', k3'⟩ := far hJ.low; refine relv_of (by (go_simp; first | rfl | exact ⟨rfl, rfl⟩)) ⟨rfl, ?_⟩; exact ⟨hJ.low, hJ.o0, hJ.o3, hJ.o6⟩)); simp only [Act.put, List.setIfInBounds_toArray, List.set_cons_zero, List.set_cons_succ])
  apply rel_nil
  intro w6 hJ
  have hb6 := hJ.low
  obtain ⟨_, own6⟩ := hJ.o6 v5 rfl
  obtain ⟨k1', k2', k3'⟩ := far hJ.low
  clear hJ
  clear k1' k2' k3' HSRC HOWN2 HOWN3 far k0 k1 k2 k3
  have z6 := hb6.size
  have HO6 := Lib.hid own6
  clear own6
  go_wp2_with fail
  refine (put221 w1.heap.size v5 (l.length + 2 + 2 + 4) _ t.epoch 3 (by omega) w6 HO6.out (by omega) (by omega) h.e0 (by have := h.e1; omega)).mono ?_
  rintro e w7 ⟨⟨v7, rfl, own7⟩, hb7⟩
  have z7 := hb7.size
  obtain ⟨g7, c7, rfl⟩ := own_some own7 (by intro e; subst e; rcases own7.2 with ⟨_, h0⟩ | ⟨_, _, _, h0, _⟩; omega; cases h0)
  obtain ⟨o1, o2, o3, o4⟩ := own_row own7
  have hbody : l ++ [74, t.kind] ++ be 2 t.page ++ be 4 t.seq ++ be 3 t.epoch = bodyOf l t := rfl
  have hbl : (bodyOf l t).length = l.length + 2 + 2 + 4 + 3 := by simp [bodyOf, be_length]
  rw [hbody] at own7 o4
  have hbb : ∀ x ∈ bodyOf l t, 0 ≤ x ∧ x ≤ 255 := by
    intro x hx
    simp only [bodyOf, List.mem_append] at hx
    rcases hx with (((hx | hx) | hx) | hx) | hx
    · exact hb x hx
    · simp at hx; have := h.k1; have := h.k3; rcases hx with rfl | rfl <;> omega
    · exact be_byte _ _ x hx
    · exact be_byte _ _ x hx
    · exact be_byte _ _ x hx
  have hcrc := of179 (bodyOf l t) g7 0 c7 w7 o4 (by omega) hbb (by omega)
  rw [hbl] at hcrc
  have hc0 := crcOf_lo (bodyOf l t)
  have hc1 := crcOf_hi (bodyOf l t)
  have hcw : IntKind.i64.wrap (crcOf (bodyOf l t)) = crcOf (bodyOf l t) := IntWalk.i64_in _ (by omega)
  have HO7 := Lib.hid own7
  have HCRC := Lib.hid hcrc
  have HBL := Lib.hid hbl
  clear own7 o4 hcrc hbody HO6 hbl
  go_wp2_with fail
  refine HCRC.out.mono ?_
  rintro e w8 ⟨rfl, rfl⟩
  go_wp2_with fail
  refine (put221 w1.heap.size _ (l.length + 2 + 2 + 4 + 3) _ (crcOf (bodyOf l t)) 4 (by omega) w7 HO7.out (by omega) (by omega) hc0 (by omega)).mono ?_
  rintro e w8 ⟨⟨v8, rfl, own8⟩, hb8⟩
  have z8 := hb8.size
  have HO8 := Lib.hid own8
  clear own8
  go_wp2_with (at_builtin; refine wpList_append_own _ rfl _ _ 37 rfl w1.heap.size 5 i0 (.int .u8 0) 1 1 Tryz.underlying37 hi hz0 hz1 hz2 rfl (by decide) _ _ _ rfl (HO8.out.alloc _) ⟨w8.heap.size, 0, none⟩ 1 1 [u8 0] rfl rfl ?c5 ?c6 (by unfold maxLen; omega) (by omega) (by simp; omega) ?_)
  case c5 =>
    intro j u hj
    cases j with
    | zero => cases hj; simp [Addr.add]
    | succ j => simp at hj
  case c6 => intro u hu; simp at hu; subst hu; rfl
  intro v9 w9 hown9 hg9 hnil
  clear hnil
  have hb9 : Below w1.heap.size w8 w9 := ((Below.refl _ _).alloc (by omega) _).trans (grown_below hg9 (by simp; omega) (fun g hg' => (HO8.out.lt g hg').1))
  have HO9 := Lib.hid hown9
  clear hown9 hg9
  go_wp2_with fail
  have hall : Below w.heap.size w w9 := by
    have a1 : Below w1.heap.size w1 w9 := (((hw2.trans hb6).trans hb7).trans hb8).trans hb9
    exact hw1.trans (a1.mono (by omega))
  go_ret2
  refine ⟨⟨v9, ?_, ?_⟩, hall⟩
  · rfl
  · obtain ⟨g9, c9, rfl⟩ := own_some HO9.out (by intro e; subst e; rcases HO9.out.2 with ⟨_, h0⟩ | ⟨_, _, _, h0, _⟩; omega; cases h0)
    obtain ⟨p1, p2, p3, p4⟩ := own_row HO9.out
    have hraw : (rawOf l t).length = l.length + 2 + 2 + 4 + 3 + 4 + 1 := by simp [rawOf, be_length, HBL.out]
    refine ⟨g9, c9, by rw [hraw], by omega, p2, by rw [hraw]; exact p3, ?_⟩
    have : (rawOf l t).map u8 = (bodyOf l t ++ be 4 (crcOf (bodyOf l t))).map u8 ++ [u8 0] := by rw [rawOf, List.map_append]; rfl
    rw [this, List.map_append, List.append_assoc]; exact p4
end Go.Proofs.YthghhcnpbehaiaaGreat
