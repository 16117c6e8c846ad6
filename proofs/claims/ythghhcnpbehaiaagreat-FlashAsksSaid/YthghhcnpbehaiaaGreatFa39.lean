/- What awake's flash is, in plain words. -/
import Derived.Test.YthghhcnpbehaiaaGreatFa35
import Derived.Test.YthghhcnpbehaiaaGreatFa36
import Derived.Test.YthghhcnpbehaiaaGreatFa38

namespace Go.Proofs.YthghhcnpbehaiaaGreat
open Go.RowKit

theorem page_prog (b : Blk) (pp y q : Nat) (raw : List Int) (hr : raw.length = y) (h : (pp + 1) * y ≤ b.by_.length) : (b.prog pp y raw).page q y = if q = pp then raw else b.page q y := by
  obtain ⟨P, hP⟩ : ∃ P, P = pp * y := ⟨_, rfl⟩
  obtain ⟨Q, hQ⟩ : ∃ Q, Q = q * y := ⟨_, rfl⟩
  have h1 : P + y ≤ b.by_.length := by rw [hP]; rw [Nat.add_mul, Nat.one_mul] at h; exact h
  have hlt : q < pp → Q + y ≤ P := fun hq => by
    have := Nat.mul_le_mul_right y (show q + 1 ≤ pp from hq)
    rw [Nat.add_mul, Nat.one_mul] at this; rw [hQ, hP]; exact this
  have hgt : pp < q → P + y ≤ Q := fun hq => by
    have := Nat.mul_le_mul_right y (show pp + 1 ≤ q from hq)
    rw [Nat.add_mul, Nat.one_mul] at this; rw [hQ, hP]; exact this
  unfold Blk.page Blk.prog
  simp only [← hP, ← hQ, hr]
  split
  · rename_i e
    have e2 : Q = P := by rw [hQ, hP, e]
    rw [e2, List.drop_append_of_le_length (by simp; omega), List.drop_take, Nat.sub_self, List.take_zero, List.nil_append, List.take_append_of_le_length (by omega), List.take_of_length_le (by omega)]
  · rename_i hne
    apply List.ext_getElem?
    intro i
    by_cases hi : i < y
    · rw [List.getElem?_take_of_lt hi, List.getElem?_take_of_lt hi, List.getElem?_drop, List.getElem?_drop]
      by_cases hq : q < pp
      · have := hlt hq
        rw [List.getElem?_append_left (by simp; omega), List.getElem?_take_of_lt (by omega)]
      · have := hgt (by omega)
        rw [List.getElem?_append_right (by simp; omega), List.getElem?_append_right (by simp; omega), List.getElem?_drop]
        congr 1
        simp; omega
    · rw [List.getElem?_take_eq_none (by omega), List.getElem?_take_eq_none (by omega)]

theorem lost_nil {C : Chip} (h : C.fs = []) : C.lost = 0 := by
  have : ∀ i, C.isBad i = false := fun i => by
    simp only [Chip.isBad, Chip.badB, Chip.failedB, badB, failsB, faultOf, h, List.find?_nil, Option.any_none, Bool.false_or]
    cases C.at i <;> rfl
  simp [Chip.lost, cnt, this]

def gS : Geo := ⟨8, 4, 32, 0, 2⟩
theorem gS_ok : gS.okB = true := by kernel_rfl
def C0 : Chip := Chip.new gS
def pg0 : Plc → Option (Tag × List Int) := fun _ => none
def dA : List Int := dataL 9 32
def F0 : Fl := mounted C0 pg0 32
def F1 : Fl := { F0 with pend := fput F0.pend 2 (some (some dA)), np := true }
def Fa : Fl := { F1 with epoch := F1.epoch + 1, now := F1.epoch + 1 }
def bA : Blk := ⟨List.replicate 192 255, 0, 0, 0⟩
def t1 : Tag := ⟨1, 2, 0, 0⟩
def t3 : Tag := ⟨3, 0, 0, 0⟩
def Fb : Fl := Fa.prog ⟨0, 0⟩ bA (t1.at 1) dA
def raw1 : List Int := rawOf dA ⟨1, 2, 1, 1⟩
def bB : Blk := bA.prog 0 48 raw1
def zA : List Int := List.replicate 32 0
def Fc : Fl := Fb.prog ⟨0, 1⟩ bB (t3.at 1) zA
def raw2 : List Int := rawOf zA ⟨3, 0, 2, 1⟩
def C2 : Chip := Fc.flushed.C
def pg2 : Plc → Option (Tag × List Int) := fun p => if p = ⟨0, 0⟩ then some (⟨1, 2, 1, 1⟩, dA) else if p = ⟨0, 1⟩ then some (⟨3, 0, 2, 1⟩, zA) else none
def F3 : Fl := mounted C2 pg2 32

theorem raw1_len : raw1.length = 48 := by unfold raw1; rw [rawOf_len]; rfl
theorem raw2_len : raw2.length = 48 := by unfold raw2; rw [rawOf_len]; rfl

theorem at_rep {b : Blk} {n : Nat} {i : Int} {x : Blk} (h : (if 0 ≤ i then (List.replicate n b)[i.toNat]? else none) = some x) : x = b := by
  split at h
  · rw [List.getElem?_replicate] at h
    split at h
    · injection h with h; exact h.symm
    · cases h
  · cases h

theorem cont0 : Cont C0 pg0 := by
  intro p b hp hb _
  have hb' : b = bA := at_rep (n := 8) (i := p.b) hb
  subst hb'
  have h1 : 0 ≤ p.p ∧ p.p < 4 := by
    have := num_bounds gS_ok hp
    exact ⟨this.2.2.2.2.2.1, this.2.2.2.2.2.2⟩
  show bA.page p.p.toNat 48 = List.replicate 48 255
  simp only [Blk.page, bA, List.drop_replicate, List.take_replicate]
  congr 1
  have : p.p.toNat * 48 ≤ 3 * 48 := Nat.mul_le_mul_right 48 (by omega)
  omega

theorem goes_a : Fa.C.goes = some 0 := by kernel_rfl
theorem goes_b : Fb.C.goes = some 0 := by kernel_rfl
theorem used_a : Fa.C.usedOf 0 = 0 := by kernel_rfl
theorem used_b : Fb.C.usedOf 0 = 1 := by kernel_rfl
theorem seq_a : Fa.seq = 0 := by kernel_rfl
theorem seq_b : Fb.seq = 1 := by kernel_rfl
theorem now_a : Fa.now = 1 := by kernel_rfl
theorem now_b : Fb.now = 1 := by kernel_rfl
theorem ops_a : Fa.C.ops = 32 := by kernel_rfl
theorem ops_b : Fb.C.ops = 33 := by kernel_rfl
theorem ops_2 : C2.ops = 34 := by kernel_rfl
theorem fd_a : Fa.fd = [] := by kernel_rfl
theorem stale_a : ∀ n, Fa.stale n = false := by
  intro n
  have : Fa.stale = staleF (staleOf (lastOf ((fdOf C0 pg0 32).map Fnd.pt)) ((fdOf C0 pg0 32).map Fnd.pt)) := rfl
  rw [this, show fdOf C0 pg0 32 = [] from fd_a]; rfl
theorem base_a : ∀ n, Fa.base n = none := by
  intro n
  have : Fa.base = baseOf (fdOf C0 pg0 32) := rfl
  rw [this, show fdOf C0 pg0 32 = [] from fd_a]; rfl
theorem epoch_1 : F1.epoch = 0 := by kernel_rfl
theorem free_1 : (2 + F1.C.g.S - F1.C.lost ≤ F1.C.freeN) := by
  have h1 : F1.C.lost = 0 := lost_nil rfl
  have h2 : F1.C.freeN = 8 := by kernel_rfl
  have h3 : F1.C.g.S = 0 := rfl
  rw [h1, h2, h3]; omega
theorem calm_c : Fc.C.spread ≤ Fc.C.g.T := by
  have h1 : Fc.C.spread = 0 := by kernel_rfl
  have h2 : Fc.C.g.T = 2 := rfl
  rw [h1, h2]; omega
theorem get_2 : F3.get 2 = some dA := by kernel_rfl
theorem get_3 : F3.get 3 = none := by kernel_rfl
theorem pages_3 : F3.pagesTo 8 = [2] := by kernel_rfl
theorem logical_3 : F3.logical = 8 := by kernel_rfl
theorem asked_2 : F3.asked 2 = 0 := by kernel_rfl
theorem asked_3 : F3.asked 3 = 0 := by kernel_rfl
theorem asked_0 : F0.asked 2 = 0 := by kernel_rfl
end Go.Proofs.YthghhcnpbehaiaaGreat

/- What awake's flash is: the puts, and the chip behind. -/
namespace Go.Proofs.YthghhcnpbehaiaaGreat
open Go.RowKit

theorem isB00 : gS.isB ⟨0, 0⟩ = true := by kernel_rfl
theorem isB01 : gS.isB ⟨0, 1⟩ = true := by kernel_rfl
theorem fails_nil (b d : Int) : failsB [] b d = false := by simp [failsB, faultOf]

theorem put_1 : PutRel Fa t1 dA Fb := by
  refine ⟨0, bA, goes_a, ?_, ?_⟩
  · rw [used_a, now_a]
    refine ⟨isB00, rfl, rfl, rfl, by rw [ops_a]; omega, fails_nil _ _, rfl, by show (0 : Int) + 1 < _; omega, by rw [seq_a]; omega, ?_, rfl, dataL_byte 9 32, by rw [fd_a]; simp, by rw [fd_a]; simp, ?_⟩
    · rw [seq_a]
      exact ⟨by decide, by decide, by decide, by decide, by decide, by decide, by decide, by decide, by decide⟩
    · rw [lost_nil rfl]; decide
  · rw [used_a, now_a]; rfl

theorem fd_b : Fb.fd = [⟨⟨0, 0⟩, ⟨1, 2, 1, 1⟩, dA⟩] := by
  have : Fb.fd = insF gS ⟨⟨0, 0⟩, (t1.at 1).num (Fa.seq + 1), dA⟩ Fa.fd := rfl
  rw [this, fd_a, seq_a]; rfl

theorem put_3 : PutRel Fb t3 zA Fc := by
  refine ⟨0, bB, goes_b, ?_, ?_⟩
  · rw [used_b, now_b]
    refine ⟨isB01, ?_, rfl, rfl, by rw [ops_b]; omega, fails_nil _ _, rfl, by show (0 : Int) + 1 + 1 < _; omega, by rw [seq_b]; omega, ?_, rfl, ?_, ?_, ?_, ?_⟩
    · show (some (bA.prog 0 48 (rawOf dA ((t1.at 1).num (Fa.seq + 1)))) : Option Blk) = some bB
      rw [seq_a]; rfl
    · rw [seq_b]
      exact ⟨by decide, by decide, by decide, by decide, by decide, by decide, by decide, by decide, by decide⟩
    · intro x hx; rw [zA, List.mem_replicate] at hx; omega
    · rw [fd_b]; intro y hy; simp at hy; subst hy; simp
    · rw [fd_b]; intro y hy; simp at hy; subst hy; simp only [ok64]; omega
    · rw [lost_nil rfl]; decide
  · rw [used_b, now_b]; rfl

/-- The flash behind so many pages that were looked over. -/
def FsA (n : Nat) : Fl := if n ≤ 2 then Fa else Fb
theorem steps_a : ∀ n, n < 32 → PutsStep (FsA n) n (FsA (n + 1)) := by
  intro n hn
  by_cases h2 : n = 2
  · subst h2
    exact put_1
  · have hw : ∀ F : Fl, F.pend = Fa.pend → F.base = Fa.base → F.stale = Fa.stale → putWhat F.C.g (F.pend n) (F.base n) (F.stale n) = none := by
      intro F hp hb hs
      rw [hp, hb, hs, base_a, stale_a]
      have : Fa.pend (n : Int) = none := by
        show fput F0.pend 2 (some (some dA)) (n : Int) = none
        rw [fput_ne _ (by omega)]; rfl
      rw [this]; rfl
    unfold PutsStep
    by_cases hlt : n < 2
    · have e1 : FsA n = Fa := if_pos (by omega)
      have e2 : FsA (n + 1) = Fa := if_pos (by omega)
      rw [e1, e2, hw Fa rfl rfl rfl]
    · have e1 : FsA n = Fb := if_neg (by omega)
      have e2 : FsA (n + 1) = Fb := if_neg (by omega)
      rw [e1, e2, hw Fb rfl rfl rfl]

theorem bk_2 : C2.bk = [bB.prog 1 48 raw2, bA, bA, bA, bA, bA, bA, bA] := by
  have h1 : C2.bk = (((List.replicate 8 bA).set 0 (bA.prog 0 48 (rawOf dA ((t1.at 1).num (Fa.seq + 1))))).set 0 (bB.prog 1 48 (rawOf zA ((t3.at 1).num (Fb.seq + 1))))) := rfl
  rw [h1, seq_a, seq_b]; rfl

theorem pageA (q : Nat) (h : q < 4) : bA.page q 48 = List.replicate 48 255 := by
  simp only [Blk.page, bA, List.drop_replicate, List.take_replicate]
  congr 1
  have : q * 48 ≤ 3 * 48 := Nat.mul_le_mul_right 48 (by omega)
  omega
theorem bA_len : bA.by_.length = 192 := List.length_replicate
theorem bB_len : bB.by_.length = 192 := by
  simp only [bB, Blk.prog, List.length_append, List.length_take, List.length_drop, bA_len, raw1_len]
  omega

theorem cont2 : Cont C2 pg2 := by
  intro p b hp hb _
  have hbd := num_bounds gS_ok hp
  have h1 : 0 ≤ p.p ∧ p.p < 4 := ⟨hbd.2.2.2.2.2.1, hbd.2.2.2.2.2.2⟩
  have h2 : 0 ≤ p.b ∧ p.b < 8 := ⟨hbd.2.2.2.1, hbd.2.2.2.2.1⟩
  obtain ⟨pb, pq⟩ := p
  simp only at h1 h2
  obtain ⟨q, rfl⟩ : ∃ q : Nat, pq = q := ⟨pq.toNat, by omega⟩
  obtain ⟨m, rfl⟩ : ∃ m : Nat, pb = m := ⟨pb.toNat, by omega⟩
  have hat : C2.bk[m]? = some b := by
    have : C2.at (m : Int) = C2.bk[m]? := by simp [Chip.at]
    rw [← this]; exact hb
  rw [bk_2] at hat
  show match pg2 ⟨m, q⟩ with
    | none => b.page q 48 = List.replicate 48 255
    | some (t, d) => t.Ok ∧ (d.length : Int) = 32 ∧ (∀ x ∈ d, 0 ≤ x ∧ x ≤ 255) ∧ b.page q 48 = rawOf d t
  by_cases hm : m = 0
  · subst hm
    have hbe : b = bB.prog 1 48 raw2 := by simpa using hat.symm
    subst hbe
    have e1 : (bB.prog 1 48 raw2).page q 48 = if q = 1 then raw2 else bB.page q 48 := page_prog bB 1 48 q raw2 raw2_len (by rw [bB_len]; omega)
    have e2 : bB.page q 48 = if q = 0 then raw1 else bA.page q 48 := page_prog bA 0 48 q raw1 raw1_len (by rw [bA_len]; omega)
    rw [e1, e2]
    by_cases q0 : q = 0
    · subst q0
      refine ⟨⟨by decide, by decide, by decide, by decide, by decide, by decide, by decide, by decide, by decide⟩, rfl, dataL_byte 9 32, rfl⟩
    · by_cases q1 : q = 1
      · subst q1
        refine ⟨⟨by decide, by decide, by decide, by decide, by decide, by decide, by decide, by decide, by decide⟩, rfl, ?_, rfl⟩
        intro x hx; rw [zA, List.mem_replicate] at hx; omega
      · have hn : pg2 ⟨((0 : Nat) : Int), q⟩ = none := by
          have a1 : ¬ (q : Int) = 0 := by omega
          have a2 : ¬ (q : Int) = 1 := by omega
          simp [pg2, a1, a2, q0, q1]
        rw [hn]
        simp only [q0, q1, if_false]
        exact pageA q (by omega)
  · have hbe : b = bA := by
      have hm8 : m < 8 := by omega
      match m, hm, hm8, hat with
      | 1, _, _, h => simpa using h.symm
      | 2, _, _, h => simpa using h.symm
      | 3, _, _, h => simpa using h.symm
      | 4, _, _, h => simpa using h.symm
      | 5, _, _, h => simpa using h.symm
      | 6, _, _, h => simpa using h.symm
      | 7, _, _, h => simpa using h.symm
    subst hbe
    have hn : pg2 ⟨(m : Int), q⟩ = none := by
      have a1 : ¬ (m : Int) = 0 := by omega
      simp [pg2, a1, hm]
    rw [hn]
    exact pageA q (by omega)
end Go.Proofs.YthghhcnpbehaiaaGreat
