/- The flash as it lies in memory. -/
import Derived.Test.YthghhcnpbehaiaaGreatFa17
import Derived.Test.YthghhcnpbehaiaaGreatFa19
import Derived.Test.YthghhcnpbehaiaaGreatFa20
import Derived.Test.YthghhcnpbehaiaaGreatFa22
import Derived.Test.YthghhcnpbehaiaaGreatFa23

namespace Go.Proofs.YthghhcnpbehaiaaGreat
open Go.RowKit

/-- Where a flash lies: its chip, its struct, its four maps. -/
structure FA where
  (A : CA) (f mf mb mp ms : Nat)
def FA.mut (X : FA) (k : Nat) : Prop := X.A.foot k ∨ k = X.f ∨ k = X.mf ∨ k = X.mb ∨ k = X.mp ∨ k = X.ms

/-- v are the bytes d, in memory that is not M's. -/
def BytesAt (M : Nat → Prop) (w : World) (v : Value) (d : List Int) : Prop := ∃ b off cap, v = .slice (some ⟨b, off, none⟩) d.length cap ∧ d.length ≤ cap ∧ ¬ M b ∧ Row w b off (d.map u8) ∧ d ≠ []
theorem BytesAt.lt {M : Nat → Prop} {w : World} {b off n cap : Nat} {d : List Int} (h : BytesAt M w (.slice (some ⟨b, off, none⟩) n cap) d) : b < w.heap.size := by
  obtain ⟨b', o', c', e, h1, h2, h3, h4⟩ := h
  simp only [Value.slice.injEq, Option.some.injEq, Addr.mk.injEq, and_true] at e
  obtain ⟨⟨rfl, rfl⟩, -, -⟩ := e
  exact h3.lt (by simpa using h4)
theorem BytesAt.turns {M M' : Nat → Prop} {w w' : World} {v : Value} {d : List Int} (h : BytesAt M w v d) (ht : Turns M' w w') (hm : ∀ k, k < w.heap.size → M' k → M k) : BytesAt M w' v d := by
  obtain ⟨b, o, c, rfl, h1, h2, h3, h4⟩ := h
  have hlt : b < w.heap.size := h3.lt (by simpa using h4)
  exact ⟨b, o, c, rfl, h1, h2, h3.turns ht (fun hk => h2 (hm b hlt hk)), h4⟩
theorem BytesAt.below {M : Nat → Prop} {w w' : World} {v : Value} {d : List Int} (h : BytesAt M w v d) (hb : Below w.heap.size w w') : BytesAt M w' v d := h.turns (M' := fun _ => False) (Turns.of_below hb) (fun _ _ h => h.elim)
theorem BytesAt.of_fresh {M : Nat → Prop} {w : World} {B : Nat} {d : List Int} {v : Value} (h : Fresh B w d v) (hM : ∀ k, M k → k < B) (hne : d ≠ []) : BytesAt M w v d := by
  obtain ⟨g, c, rfl, h1, h2, h3, h4⟩ := h
  exact ⟨g, 0, c, rfl, h3, fun hk => by have := hM g hk; omega, h4, hne⟩
theorem BytesAt.sl {M : Nat → Prop} {w : World} {v : Value} {d : List Int} (h : BytesAt M w v d) : ∃ A n c, v = .slice A n c := by
  obtain ⟨b, o, c, rfl, _⟩ := h; exact ⟨_, _, _, rfl⟩

/-- Block b is the map of what is found. -/
def FoundAt (M : Nat → Prop) (w : World) (b : Nat) (fd : List Fnd) : Prop := ∃ sl : Plc → Value, MapAt w Plc.v b (fd.map (entry sl)) ∧ ∀ x ∈ fd, BytesAt M w (sl x.at_) x.data
theorem FoundAt.turns {M M' : Nat → Prop} {w w' : World} {b : Nat} {fd : List Fnd} (h : FoundAt M w b fd) (ht : Turns M' w w') (hm : ∀ k, k < w.heap.size → M' k → M k) (hb : ¬ M' b) : FoundAt M w' b fd := by
  obtain ⟨sl, h1, h2⟩ := h
  exact ⟨sl, h1.turns ht hb, fun x hx => (h2 x hx).turns ht hm⟩

/-- What stands under a number: v, of what is meant: o. -/
def OptAt (M : Nat → Prop) (w : World) : Option Value → Option (List Int) → Prop
  | none, none => True
  | some v, some d => BytesAt M w v d
  | _, _ => False
theorem OptAt.turns {M M' : Nat → Prop} {w w' : World} {v : Option Value} {d : Option (List Int)} (h : OptAt M w v d) (ht : Turns M' w w') (hm : ∀ k, k < w.heap.size → M' k → M k) : OptAt M w' v d := by
  cases v <;> cases d <;> simp only [OptAt] at h ⊢
  exact h.turns ht hm
/-- Block b is the map of the pages that are there. -/
def BaseAt (M : Nat → Prop) (w : World) (b : Nat) (base : Int → Option (List Int)) : Prop := ∃ g, MapF w i64 ok64 b g ∧ ∀ n, OptAt M w (g n) (base n)
theorem BaseAt.turns {M M' : Nat → Prop} {w w' : World} {b : Nat} {f : Int → Option (List Int)} (h : BaseAt M w b f) (ht : Turns M' w w') (hm : ∀ k, k < w.heap.size → M' k → M k) (hb : ¬ M' b) : BaseAt M w' b f := by
  obtain ⟨g, h1, h2⟩ := h
  exact ⟨g, h1.turns ht hb, fun n => (h2 n).turns ht hm⟩
/-- What is pending under a number: nothing; a trim; bytes. -/
def Opt2At (M : Nat → Prop) (w : World) : Option Value → Option (Option (List Int)) → Prop
  | none, none => True
  | some v, some none => v = .slice none 0 0
  | some v, some (some d) => BytesAt M w v d
  | _, _ => False
theorem Opt2At.turns {M M' : Nat → Prop} {w w' : World} {v : Option Value} {d : Option (Option (List Int))} (h : Opt2At M w v d) (ht : Turns M' w w') (hm : ∀ k, k < w.heap.size → M' k → M k) : Opt2At M w' v d := by
  cases v with
  | none => cases d <;> simp only [Opt2At] at h ⊢
  | some v =>
    cases d with
    | none => simp only [Opt2At] at h
    | some d =>
      cases d with
      | none => simpa only [Opt2At] using h
      | some d => simp only [Opt2At] at h ⊢; exact h.turns ht hm
def PendAt (M : Nat → Prop) (w : World) (b : Nat) (pend : Int → Option (Option (List Int))) (np : Bool) : Prop := ∃ l, MapAt w i64 b l ∧ (∀ p ∈ l, ok64 p.1) ∧ (∀ n, Opt2At M w (look l n) (pend n)) ∧ (np = false ↔ l = []) ∧ l.length ≤ 1000
theorem PendAt.turns {M M' : Nat → Prop} {w w' : World} {b : Nat} {f : Int → Option (Option (List Int))} {np : Bool} (h : PendAt M w b f np) (ht : Turns M' w w') (hm : ∀ k, k < w.heap.size → M' k → M k) (hb : ¬ M' b) : PendAt M w' b f np := by
  obtain ⟨l, h1, h2, h3, h4⟩ := h
  exact ⟨l, h1.turns ht hb, h2, fun n => (h3 n).turns ht hm, h4⟩
def staleV (s : Int → Bool) (n : Int) : Option Value := if s n then some (.bool true) else none

/-- A flash. -/
structure Fl where
  (C : Chip) (fd : List Fnd) (base : Int → Option (List Int)) (pend : Int → Option (Option (List Int))) (np : Bool) (stale : Int → Bool) (seq epoch now : Int) (deg : Bool)
abbrev Fl.cells (X : FA) (F : Fl) : List Value :=
  [ptr X.A.c, i64 F.C.g.B, i64 F.C.g.P, i64 F.C.g.Y, i64 F.C.g.S, i64 F.C.g.T, .map (some X.mf), .map (some X.mb), .map (some X.mp), .map (some X.ms), i64 F.seq, i64 F.epoch, i64 F.now, .bool F.deg]

structure FA.Sep (X : FA) : Prop where
  nd : [X.f, X.mf, X.mb, X.mp, X.ms].Nodup
  nf : ∀ k ∈ [X.f, X.mf, X.mb, X.mp, X.ms], ¬ X.A.foot k
  fs : ∀ k o, X.A.fA = some ⟨k, o, none⟩ → ¬ X.mut k

structure FlashAt (w : World) (X : FA) (F : Fl) : Prop where
  chip : ChipAt w X.A F.C
  row : Row w X.f 0 (F.cells X)
  found : FoundAt X.mut w X.mf F.fd
  base : BaseAt X.mut w X.mb F.base
  pend : PendAt X.mut w X.mp F.pend F.np
  stale : MapF w i64 ok64 X.ms (staleV F.stale)
  sep : X.Sep

theorem FlashAt.hd {w : World} {X : FA} {F : Fl} (h : FlashAt w X F) : Hd w X.f X.A F.C :=
  ⟨h.chip, h.row.pre fun i v hi => by
    match i, hi with
    | 0, hi => exact hi
    | 1, hi => exact hi
    | 2, hi => exact hi
    | 3, hi => exact hi
    | 4, hi => exact hi
    | 5, hi => exact hi
    | n + 6, hi => simp at hi⟩
theorem FlashAt.below {w w' : World} {X : FA} {F : Fl} (h : FlashAt w X F) (hb : Below w.heap.size w w') : FlashAt w' X F := by
  have ht : Turns (fun _ => False) w w' := Turns.of_below hb
  exact ⟨h.chip.below hb, h.row.below hb, h.found.turns ht (fun _ _ h => h.elim) (fun h => h), h.base.turns ht (fun _ _ h => h.elim) (fun h => h), h.pend.turns ht (fun _ _ h => h.elim) (fun h => h), h.stale.below hb, h.sep⟩
theorem FlashAt.f_lt {w : World} {X : FA} {F : Fl} (h : FlashAt w X F) : X.f < w.heap.size := h.row.lt (by simp)
theorem FlashAt.mut_lt {w : World} {X : FA} {F : Fl} (h : FlashAt w X F) {k : Nat} (hk : X.mut k) : k < w.heap.size := by
  rcases hk with hk | rfl | rfl | rfl | rfl | rfl
  · exact h.chip.flt hk
  · exact h.f_lt
  · obtain ⟨sl, h1, _⟩ := h.found; exact h1.lt
  · obtain ⟨sl, h1, _⟩ := h.base; exact h1.lt
  · obtain ⟨sl, h1, _⟩ := h.pend; exact h1.lt
  · exact h.stale.lt
namespace FA.Sep
variable {X : FA}
theorem f_mf (h : X.Sep) : X.f ≠ X.mf := by have := h.nd; simp at this; omega
theorem f_mb (h : X.Sep) : X.f ≠ X.mb := by have := h.nd; simp at this; omega
theorem f_mp (h : X.Sep) : X.f ≠ X.mp := by have := h.nd; simp at this; omega
theorem f_ms (h : X.Sep) : X.f ≠ X.ms := by have := h.nd; simp at this; omega
theorem mf_mb (h : X.Sep) : X.mf ≠ X.mb := by have := h.nd; simp at this; omega
theorem mf_mp (h : X.Sep) : X.mf ≠ X.mp := by have := h.nd; simp at this; omega
theorem mf_ms (h : X.Sep) : X.mf ≠ X.ms := by have := h.nd; simp at this; omega
theorem mb_mp (h : X.Sep) : X.mb ≠ X.mp := by have := h.nd; simp at this; omega
theorem mb_ms (h : X.Sep) : X.mb ≠ X.ms := by have := h.nd; simp at this; omega
theorem mp_ms (h : X.Sep) : X.mp ≠ X.ms := by have := h.nd; simp at this; omega
theorem nff (h : X.Sep) : ¬ X.A.foot X.f := h.nf _ (by simp)
theorem nfmf (h : X.Sep) : ¬ X.A.foot X.mf := h.nf _ (by simp)
theorem nfmb (h : X.Sep) : ¬ X.A.foot X.mb := h.nf _ (by simp)
theorem nfmp (h : X.Sep) : ¬ X.A.foot X.mp := h.nf _ (by simp)
theorem nfms (h : X.Sep) : ¬ X.A.foot X.ms := h.nf _ (by simp)
end FA.Sep
end Go.Proofs.YthghhcnpbehaiaaGreat
