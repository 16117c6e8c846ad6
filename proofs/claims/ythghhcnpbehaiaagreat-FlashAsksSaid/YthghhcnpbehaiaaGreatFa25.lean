/- The flash: Mount. -/
import Derived.Test.YthghhcnpbehaiaaGreatFa24
import Derived.Deep.CutBlock
import Derived.Deep.DeepCutAuto

namespace Go.Proofs.YthghhcnpbehaiaaGreat
open Go.RowKit

/-- What lies on a chip: of each page nothing, or a tag and bytes. -/
def Cont (C : Chip) (pg : Plc → Option (Tag × List Int)) : Prop := ∀ p b, C.g.isB p = true → C.at p.b = some b → C.badB p.b = false →
  match pg p with
  | none => b.page p.p.toNat (C.g.Y + 16).toNat = List.replicate (C.g.Y + 16).toNat 255
  | some (t, d) => t.Ok ∧ (d.length : Int) = C.g.Y ∧ (∀ x ∈ d, 0 ≤ x ∧ x ≤ 255) ∧ b.page p.p.toNat (C.g.Y + 16).toNat = rawOf d t

def fnd1 (C : Chip) (pg : Plc → Option (Tag × List Int)) (i : Nat) : Option Fnd :=
  if C.badB (C.g.place i).b then none else (pg (C.g.place i)).map fun x => ⟨C.g.place i, x.1, x.2⟩
def fdOf (C : Chip) (pg : Plc → Option (Tag × List Int)) (k : Nat) : List Fnd := (List.range k).filterMap (fnd1 C pg)
theorem fdOf_succ (C : Chip) (pg : Plc → Option (Tag × List Int)) (k : Nat) : fdOf C pg (k + 1) = fdOf C pg k ++ (fnd1 C pg k).toList := by
  rw [fdOf, List.range_succ, List.filterMap_append, ← fdOf]
  congr 1
def seqOf (l : List Fnd) : Int := l.foldl (fun n x => max n x.tag.seq) 0
def epochOf (l : List Fnd) : Int := l.foldl (fun n x => max n x.tag.epoch) 0
theorem seqOf_snoc (l : List Fnd) (x : Fnd) : seqOf (l ++ [x]) = max (seqOf l) x.tag.seq := by simp [seqOf]
theorem epochOf_snoc (l : List Fnd) (x : Fnd) : epochOf (l ++ [x]) = max (epochOf l) x.tag.epoch := by simp [epochOf]
def Chip.opsUp (C : Chip) (k : Nat) : Chip := { C with ops := C.ops + cnt (fun i => !C.badB (C.g.place i).b) k }
/-- The flash as Mount has it behind k places. -/
def fl0 (C : Chip) (pg : Plc → Option (Tag × List Int)) (k : Nat) : Fl :=
  ⟨C.opsUp k, fdOf C pg k, fun _ => none, fun _ => none, false, fun _ => false, seqOf (fdOf C pg k), epochOf (fdOf C pg k), 0, false⟩

def Chain (c : List (Nat × Nat)) (e : Env) : Prop := ∀ p ∈ c, e p.1 ≠ none → e p.2 ≠ none
theorem Chain.put {c : List (Nat × Nat)} {e : Env} (h : Chain c e) (k : Nat) (u : Value) (hk : ∀ p ∈ c, p.1 = k → e p.2 ≠ none) : Chain c (e.put k u) := fun p hp h1 => by
  by_cases e1 : p.2 = k
  · rw [e1, Env.put_self]; simp
  · rw [Env.put_ne _ e1]
    by_cases e2 : p.1 = k
    · exact hk p hp e2
    · rw [Env.put_ne _ e2] at h1; exact h p hp h1

theorem place_num {g : Geo} (hg : g.okB = true) {k : Nat} (hk : (k : Int) < g.B * g.P) : g.isB (g.place k) = true ∧ g.num (g.place k) = k := by
  have hgo := (Geo.ok_iff _).1 hg
  have hp : 0 < g.P := by have := hgo.p1; omega
  have h1 : (k : Int) % g.P < g.P := Int.emod_lt_of_pos _ hp
  have h2 : 0 ≤ (k : Int) % g.P := Int.emod_nonneg _ (by omega)
  have h3 : (k : Int) / g.P < g.B := Int.ediv_lt_of_lt_mul hp hk
  have h4 : 0 ≤ (k : Int) / g.P := Int.ediv_nonneg (by omega) (by omega)
  refine ⟨?_, ?_⟩
  · simp only [Geo.isB, Geo.place, Bool.and_eq_true, inB_iff]; omega
  · simp only [Geo.num, Geo.place]; rw [Int.mul_comm]; exact Int.mul_ediv_add_emod _ _
theorem geo0 {w : World} {A : CA} {C : Chip} (h : ChipAt w A C) : 0 ≤ C.g.B * C.g.P ∧ C.g.B * C.g.P ≤ 160 := by
  have hgo := (Geo.ok_iff _).1 h.ok
  have e4 : C.g.B * C.g.P ≤ 20 * 8 := Int.mul_le_mul hgo.b2 hgo.p2 (by have := hgo.p1; omega) (by omega)
  exact ⟨Int.mul_nonneg (by have := hgo.b1; omega) (by have := hgo.p1; omega), e4⟩

theorem _root_.Go.Proofs.YthghhcnpbehaiaaGreat.Turns.belowN {M : Nat → Prop} {a b : World} {n : Nat} (h : Turns M a b) (hm : ∀ k, M k → n ≤ k) (hn : n ≤ a.heap.size) : Below n a b :=
  ⟨h.os, h.tape, h.output, h.size, fun k hk => h.block k (by omega) (fun m => by have := hm k m; omega)⟩
theorem Turns.trans_new {M M' : Nat → Prop} {a b c : World} (h : Turns M a b) (k : Turns M' b c) (hm : ∀ i, M' i → M i ∨ a.heap.size ≤ i) : Turns M a c :=
  ⟨k.os.trans h.os, k.tape.trans h.tape, k.output.trans h.output, Nat.le_trans h.size k.size, fun i hi hn => (k.block i (Nat.lt_of_lt_of_le hi h.size) (fun m => by rcases hm i m with h1 | h1; exact hn h1; omega)).trans (h.block i hi hn)⟩
theorem mount_init {w1 : World} {A : CA} {C : Chip} (h : ChipAt w1 A C) (hfA : ∀ k o, A.fA = some ⟨k, o, none⟩ → k < w1.heap.size) (pg : Plc → Option (Tag × List Int)) :
    FlashAt (((((w1.alloc (.map #[] 0)).alloc (.map #[] 0)).alloc (.map #[] 0)).alloc (.map #[] 0)).alloc (.cells #[ptr A.c, i64 C.g.B, i64 C.g.P, i64 C.g.Y, i64 C.g.S, i64 C.g.T, .map (some w1.heap.size), .map (some (w1.heap.size + 1)), .map (some (w1.heap.size + 2)), .map (some (w1.heap.size + 3)), i64 0, i64 0, i64 0, .bool false] 101))
      ⟨A, w1.heap.size + 4, w1.heap.size, w1.heap.size + 1, w1.heap.size + 2, w1.heap.size + 3⟩ (fl0 C pg 0) := by
  have hnf : ∀ k, w1.heap.size ≤ k → ¬ A.foot k := fun k hk hf => by have := h.flt hf; omega
  have b0 : ∀ (W : World) (o : Obj), Below W.heap.size W (W.alloc o) := fun W o => (Below.refl _ _).alloc (Nat.le_refl _) o
  refine ⟨?_, ?_, ?_, ?_, ?_, ?_, ?_, ?_, ?_⟩
  · have h0 : (fl0 C pg 0).C = C := by
      simp [fl0, Chip.opsUp, cnt]
    rw [h0]
    exact h.below (by (repeat (first | exact Below.refl _ _ | assumption | (with_reducible refine Below.drew ?_) | (with_reducible refine below_drewN' ?_ _) | (with_reducible refine ext_alloc ?_ ?_; · (first | omega | (simp only [World.size_alloc, World.size_setCell, World.size_drew, World.heap_drewN]; omega) | (simp; omega))) | (with_reducible refine ext_setCell ?_ ?_; · (first | omega | (simp only [World.size_alloc, World.size_setCell, World.size_drew, World.heap_drewN]; omega) | (simp; omega))) | (refine ext_call (by assumption) ?_ ?_; · (first | omega | (simp only [World.size_alloc, World.size_setCell, World.size_drew, World.heap_drewN]; omega) | (simp; omega))))))
  · have := Row.new ((((w1.alloc (.map #[] 0)).alloc (.map #[] 0)).alloc (.map #[] 0)).alloc (.map #[] 0)) #[ptr A.c, i64 C.g.B, i64 C.g.P, i64 C.g.Y, i64 C.g.S, i64 C.g.T, .map (some w1.heap.size), .map (some (w1.heap.size + 1)), .map (some (w1.heap.size + 2)), .map (some (w1.heap.size + 3)), i64 0, i64 0, i64 0, .bool false] 101
    simp only [World.size_alloc] at this
    exact this
  · refine ⟨fun _ => undef, ?_, by simp [fl0, fdOf]⟩
    have := MapAt.new w1 Plc.v
    exact (((this.below (b0 _ _)).below (b0 _ _)).below (b0 _ _)).below (b0 _ _)
  · refine ⟨fun _ => none, ?_, fun n => trivial⟩
    have := MapF.new (w1.alloc (.map #[] 0)) i64 ok64
    simp only [World.size_alloc] at this
    exact ((this.below (b0 _ _)).below (b0 _ _)).below (b0 _ _)
  · refine ⟨[], ?_, by simp, fun n => trivial, by simp [fl0], by simp⟩
    have := MapAt.new ((w1.alloc (.map #[] 0)).alloc (.map #[] 0)) i64
    simp only [World.size_alloc] at this
    exact (this.below (b0 _ _)).below (b0 _ _)
  · have := MapF.new (((w1.alloc (.map #[] 0)).alloc (.map #[] 0)).alloc (.map #[] 0)) i64 ok64
    simp only [World.size_alloc] at this
    exact this.below (b0 _ _)
  · simp
  · intro k hk
    simp at hk
    exact hnf k (by omega)
  · intro k o e hk
    have h1 := hfA k o e
    rcases hk with hk | hk | hk | hk | hk | hk
    · exact h.fsn k o e hk
    all_goals (simp only at hk; omega)

theorem FlashAt.chipped {w w' : World} {X : FA} {F : Fl} (h : FlashAt w X F) {C' : Chip} (hc : ChipAt w' X.A C') (hg : C'.g = F.C.g) (ht : Turns X.A.foot w w') : FlashAt w' X { F with C := C' } := by
  have hm : ∀ k, k < w.heap.size → X.A.foot k → X.mut k := fun k _ h => .inl h
  refine ⟨hc, ?_, h.found.turns ht hm h.sep.nfmf, h.base.turns ht hm h.sep.nfmb, h.pend.turns ht hm h.sep.nfmp, h.stale.turns ht h.sep.nfms, h.sep⟩
  have := h.row.turns ht h.sep.nff
  simp only [Fl.cells, hg] at this ⊢
  exact this

theorem cnt_one (p : Nat → Bool) (k : Nat) : cnt p (k + 1) = cnt p k + if p k then 1 else 0 := cnt_succ p k
theorem fl0_bad {C : Chip} {pg : Plc → Option (Tag × List Int)} {k : Nat} (h : C.badB (C.g.place k).b = true) : fl0 C pg (k + 1) = fl0 C pg k := by
  have e1 : fdOf C pg (k + 1) = fdOf C pg k := by rw [fdOf_succ]; simp [fnd1, h]
  have e2 : C.opsUp (k + 1) = C.opsUp k := by simp [Chip.opsUp, cnt_one, h]
  rw [fl0, e1, e2]; rfl
theorem opsUp_succ {C : Chip} {k : Nat} (h : C.badB (C.g.place k).b = false) : C.opsUp (k + 1) = { C.opsUp k with ops := (C.opsUp k).ops + 1 } := by
  simp [Chip.opsUp, cnt_one, h]; omega
theorem fl0_none {C : Chip} {pg : Plc → Option (Tag × List Int)} {k : Nat} (h : C.badB (C.g.place k).b = false) (hp : pg (C.g.place k) = none) : fl0 C pg (k + 1) = { fl0 C pg k with C := { C.opsUp k with ops := (C.opsUp k).ops + 1 } } := by
  have e1 : fdOf C pg (k + 1) = fdOf C pg k := by rw [fdOf_succ]; simp [fnd1, h, hp]
  rw [fl0, e1, opsUp_succ h]; rfl
theorem fl0_some {C : Chip} {pg : Plc → Option (Tag × List Int)} {k : Nat} {t : Tag} {d : List Int} (h : C.badB (C.g.place k).b = false) (hp : pg (C.g.place k) = some (t, d)) :
    fl0 C pg (k + 1) = { fl0 C pg k with C := { C.opsUp k with ops := (C.opsUp k).ops + 1 }, fd := fdOf C pg k ++ [⟨C.g.place k, t, d⟩], seq := max (seqOf (fdOf C pg k)) t.seq, epoch := max (epochOf (fdOf C pg k)) t.epoch } := by
  have e1 : fdOf C pg (k + 1) = fdOf C pg k ++ [⟨C.g.place k, t, d⟩] := by rw [fdOf_succ]; simp [fnd1, h, hp]
  rw [fl0, e1, opsUp_succ h, seqOf_snoc, epochOf_snoc]; rfl

theorem FoundAt.put {M : Nat → Prop} {w w' : World} {b : Nat} {fd : List Fnd} {sl : Plc → Value} (hs : ∀ x ∈ fd, BytesAt M w (sl x.at_) x.data) (x : Fnd) (hx : ∀ y ∈ fd, y.at_ ≠ x.at_) (v : Value) (hv : BytesAt M w v x.data)
    (hm : MapAt w' Plc.v b (upd (fd.map (entry sl)) x.at_ (pageV x.tag v))) (ht : Turns (· = b) w w') (hb : M b) : FoundAt M w' b (fd ++ [x]) := by
  have hwo : wo (fd.map (entry sl)) x.at_ = fd.map (entry sl) := by
    rw [wo, List.filter_eq_self]
    intro p hp
    obtain ⟨y, hy, rfl⟩ := List.mem_map.1 hp
    exact decide_eq_true (hx y hy)
  rw [upd, hwo] at hm
  refine ⟨fun p => if p = x.at_ then v else sl p, ?_, fun y hy => ?_⟩
  · refine hm.perm ?_
    rw [List.map_append]
    have e1 : fd.map (entry fun p => if p = x.at_ then v else sl p) = fd.map (entry sl) := List.map_congr_left fun y hy => by simp [entry, hx y hy]
    rw [e1]
    have e2 : ([x] : List Fnd).map (entry fun p => if p = x.at_ then v else sl p) = [(x.at_, pageV x.tag v)] := by simp [entry]
    rw [e2]
    exact (List.perm_append_comm (l₁ := [(x.at_, pageV x.tag v)]) (l₂ := fd.map (entry sl)))
  · have hT : ∀ {v : Value} {d : List Int}, BytesAt M w v d → BytesAt M w' v d := fun h => h.turns ht (fun k _ hk => by rw [hk]; exact hb)
    rcases List.mem_append.1 hy with hy | hy
    · simp only [hx y hy, if_false]; exact hT (hs y hy)
    · have : y = x := by simpa using hy
      subst this; simp only [if_true]; exact hT hv
theorem FA.Sep.mf_mut (X : FA) : X.mut X.mf := .inr (.inr (.inl rfl))

theorem FlashAt.put_found {w w' : World} {X : FA} {F : Fl} (h : FlashAt w X F) {sl : Plc → Value} (hs : ∀ y ∈ F.fd, BytesAt X.mut w (sl y.at_) y.data) (x : Fnd) (hx : ∀ y ∈ F.fd, y.at_ ≠ x.at_) (v : Value) (hv : BytesAt X.mut w v x.data)
    (hm : MapAt w' Plc.v X.mf (upd (F.fd.map (entry sl)) x.at_ (pageV x.tag v))) (ht : Turns (· = X.mf) w w') : FlashAt w' X { F with fd := F.fd ++ [x] } := by
  have hmm : ∀ k, k < w.heap.size → k = X.mf → X.mut k := fun k _ hk => by rw [hk]; exact FA.Sep.mf_mut X
  have hs' := h.sep
  exact ⟨h.chip.turns ht (fun k hk e => hs'.nfmf (e ▸ hk)) (fun k o e hk => hs'.fs k o e (hk ▸ FA.Sep.mf_mut X)), h.row.turns ht hs'.f_mf, FoundAt.put hs x hx v hv hm ht (FA.Sep.mf_mut X), h.base.turns ht hmm (Ne.symm hs'.mf_mb), h.pend.turns ht hmm (Ne.symm hs'.mf_mp), h.stale.turns ht (Ne.symm hs'.mf_ms), hs'⟩
theorem FA.Sep.f_mut (X : FA) : X.mut X.f := .inr (.inl rfl)
theorem FlashAt.put_row {w w' : World} {X : FA} {F : Fl} (h : FlashAt w X F) {sq ep nw : Int} {dg : Bool} (ht : Turns (· = X.f) w w') (hr : Row w' X.f 0 ({ F with seq := sq, epoch := ep, now := nw, deg := dg }.cells X)) : FlashAt w' X { F with seq := sq, epoch := ep, now := nw, deg := dg } := by
  have hmm : ∀ k, k < w.heap.size → k = X.f → X.mut k := fun k _ hk => by rw [hk]; exact FA.Sep.f_mut X
  have hs' := h.sep
  exact ⟨h.chip.turns ht (fun k hk e => hs'.nff (e ▸ hk)) (fun k o e hk => hs'.fs k o e (hk ▸ FA.Sep.f_mut X)), hr, h.found.turns ht hmm (Ne.symm hs'.f_mf), h.base.turns ht hmm (Ne.symm hs'.f_mb), h.pend.turns ht hmm (Ne.symm hs'.f_mp), h.stale.turns ht (Ne.symm hs'.f_ms), hs'⟩

theorem fdOf_mem {C : Chip} {pg : Plc → Option (Tag × List Int)} {k : Nat} {x : Fnd} (h : x ∈ fdOf C pg k) : ∃ i, i < k ∧ x.at_ = C.g.place i ∧ pg (C.g.place i) = some (x.tag, x.data) ∧ C.badB (C.g.place i).b = false := by
  obtain ⟨i, hi, he⟩ := List.mem_filterMap.1 h
  simp only [fnd1] at he
  split at he
  · cases he
  · rename_i hb
    cases hp : pg (C.g.place i) with
    | none => rw [hp] at he; cases he
    | some y =>
      rw [hp] at he
      simp only [Option.map_some, Option.some.injEq] at he
      subst he
      exact ⟨i, by simpa using hi, rfl, hp, by simpa using hb⟩

/-- How many places are still to come. -/
def mM (g : Geo) (N : Nat) (t5 t6 : Value) (w : World) : Nat :=
  match t6, t5 with
  | .bool true, .pointer (some a) => match w.cell? ⟨a.block, 0, none⟩, w.cell? ⟨a.block, 1, none⟩ with
    | some (.int _ b), some (.int _ p) => N + 1 - (g.num ⟨b, p⟩).toNat
    | _, _ => 0
  | _, _ => 0
theorem mM_at {g : Geo} {N : Nat} {w : World} {q : Nat} {p : Plc} (h : Row w q 0 [i64 p.b, i64 p.p]) : mM g N (ptr q) (.bool true) w = N + 1 - (g.num p).toNat := by
  have h0 := h.cell0 0 rfl
  have h1 := h.cell0 1 rfl
  simp only [mM, h0, h1]

/-- The greatest number is stored: before, and behind. -/
def P18 (W : World) (f : Nat) (ms : Int) : Option Value → World → Prop
  | none, w => w = W
  | some _, w => w = W.setCell ⟨f, 10, none⟩ (i64 ms)
theorem P18.row {W w : World} {f : Nat} {ms : Int} {o : Option Value} (h : P18 W f ms o w) {b : Nat} (hb : b ≠ f) {cs : List Value} {off : Nat} (hr : Row W b off cs) : Row w b off cs := by
  cases o with
  | none => rw [show w = W from h]; exact hr
  | some v => rw [show w = W.setCell ⟨f, 10, none⟩ (i64 ms) from h]; exact hr.setCell_ne (by exact Ne.symm hb) _
theorem P18.cell {W w : World} {f i : Nat} {ms : Int} {o : Option Value} (h : P18 W f ms o w) (hi : i ≠ 10) {v : Value} (hc : W.cell? ⟨f, i, none⟩ = some v) : w.cell? ⟨f, i, none⟩ = some v := by
  cases o with
  | none => rw [show w = W from h]; exact hc
  | some u => rw [show w = W.setCell ⟨f, 10, none⟩ (i64 ms) from h, World.cell?_setCell_other _ _ _ _ (by intro e; injection e; omega)]; exact hc
abbrev c18 : List (Nat × Nat) := [(18, 8), (8, 5)]
theorem c18_none {e : Env} (h : Chain c18 e) (h5 : e 5 = none) : e 18 = none := by
  have h1 := h (18, 8) (by simp)
  have h2 := h (8, 5) (by simp)
  simp only at h1 h2
  by_cases h9 : e 18 = none
  · exact h9
  · exact absurd h5 (h2 (h1 h9))

/-- Where the next place is stored: before, and behind. -/
def P9 (W : World) (q : Nat) (p : Plc) : Option Value → World → Prop
  | none, w => Below W.heap.size W w
  | some _, w => ∃ w0, Below W.heap.size W w0 ∧ w = (w0.setCell ⟨q, 0, none⟩ (i64 p.b)).setCell ⟨q, 1, none⟩ (i64 p.p)
theorem P9.row {W w : World} {q : Nat} {p : Plc} {o : Option Value} (h : P9 W q p o w) {b : Nat} (hb : b ≠ q) {cs : List Value} {off : Nat} (hr : Row W b off cs) : Row w b off cs := by
  cases o with
  | none => exact hr.below h
  | some v =>
    obtain ⟨w0, h1, rfl⟩ := h
    exact ((hr.below h1).setCell_ne (by exact Ne.symm hb) _).setCell_ne (by exact Ne.symm hb) _
abbrev c9 : List (Nat × Nat) := [(9, 7), (7, 6), (6, 5), (5, 4)]
theorem c9_none {e : Env} (h : Chain c9 e) : (e 4 = none → e 9 = none) ∧ (e 5 = none → e 9 = none) := by
  have h1 := h (9, 7) (by simp)
  have h2 := h (7, 6) (by simp)
  have h3 := h (6, 5) (by simp)
  have h4 := h (5, 4) (by simp)
  simp only at h1 h2 h3 h4
  refine ⟨fun h0 => ?_, fun h0 => ?_⟩
  · by_cases h9 : e 9 = none
    · exact h9
    · exact absurd h0 (h4 (h3 (h2 (h1 h9))))
  · by_cases h9 : e 9 = none
    · exact h9
    · exact absurd h0 (h3 (h2 (h1 h9)))

end Go.Proofs.YthghhcnpbehaiaaGreat

/- The flash: what Mount reckons. -/
namespace Go.Proofs.YthghhcnpbehaiaaGreat
open Go.RowKit

theorem fdOf_sorted {C : Chip} (pg : Plc → Option (Tag × List Int)) (hg : C.g.okB = true) : ∀ (k : Nat), (k : Int) ≤ C.g.B * C.g.P → (fdOf C pg k).Pairwise (fun x y => C.g.numZ x.at_ < C.g.numZ y.at_)
  | 0, _ => by simp [fdOf]
  | k + 1, hk => by
    rw [fdOf_succ, List.pairwise_append]
    have hz : ∀ i : Nat, (i : Int) < C.g.B * C.g.P → C.g.numZ (C.g.place i) = i := fun i hi => by
      obtain ⟨h1, h2⟩ := place_num hg hi
      simp [Geo.numZ, h1, h2]
    refine ⟨fdOf_sorted pg hg k (by omega), ?_, fun x hx y hy => ?_⟩
    · cases fnd1 C pg k <;> simp
    · obtain ⟨i, hi, hxa, _⟩ := fdOf_mem hx
      have hya : y.at_ = C.g.place k := by
        have h0 : y ∈ fdOf C pg (k + 1) := by rw [fdOf_succ]; exact List.mem_append_right _ hy
        simp only [fnd1] at hy
        split at hy
        · simp at hy
        · cases hp : pg (C.g.place k) with
          | none => rw [hp] at hy; simp at hy
          | some z => rw [hp] at hy; simp at hy; rw [hy]
      rw [hxa, hya, hz i (by omega), hz k (by omega)]
      omega

theorem keep_all {l : List PT} (h : ∀ x ∈ l, 0 ≤ x.at_.b) : l.filter (keepPT (-1)) = l := by
  rw [List.filter_eq_self]
  intro x hx
  have := h x hx
  simp only [keepPT, bne_iff_ne, ne_eq]; omega

def dataAt (fd : List Fnd) (p : Plc) : Option (List Int) := (fd.find? fun y => y.at_ = p).map (·.data)
/-- The pages that count. -/
def baseOf (fd : List Fnd) : Int → Option (List Int) := fun n => (pickOf (newestOf (fd.map Fnd.pt)) n).bind fun x => dataAt fd x.at_
def staleF (S : List PT) (n : Int) : Bool := S.any fun x => x.tag.kind != 3 && x.tag.page == n
/-- The flash that Mount gives. -/
def mounted (C : Chip) (pg : Plc → Option (Tag × List Int)) (N : Nat) : Fl :=
  { fl0 C pg N with base := baseOf (fdOf C pg N), stale := staleF (staleOf (lastOf ((fdOf C pg N).map Fnd.pt)) ((fdOf C pg N).map Fnd.pt)) }

theorem dataAt_mem {fd : List Fnd} {key : Plc → Int} (hs : fd.Pairwise (fun x y => key x.at_ < key y.at_)) {y : Fnd} (hy : y ∈ fd) : dataAt fd y.at_ = some y.data := by
  induction fd with
  | nil => cases hy
  | cons z r ih =>
    obtain ⟨h1, h2⟩ := List.pairwise_cons.1 hs
    rw [dataAt, List.find?_cons]
    rcases List.mem_cons.1 hy with rfl | hy
    · simp
    · have : ¬ z.at_ = y.at_ := fun e => by have := h1 y hy; rw [e] at this; omega
      simp [this]
      exact (by simpa [dataAt] using ih h2 hy)

theorem look_entry {fd : List Fnd} {sl : Plc → Value} {key : Plc → Int} (hs : fd.Pairwise (fun x y => key x.at_ < key y.at_)) {y : Fnd} (hy : y ∈ fd) : look (fd.map (entry sl)) y.at_ = some (pageV y.tag (sl y.at_)) := by
  refine look_mem ?_ (List.mem_map.2 ⟨y, hy, rfl⟩)
  rw [List.map_map]
  exact List.pairwise_map.2 (hs.imp fun h e => by simp only [Function.comp, entry] at e; rw [e] at h; omega)

/-- The base behind so many of the pages. -/
def baseTo (fd : List Fnd) (R : List PT) : Int → Option (List Int) := fun n => if n ∈ R.map (·.tag.page) then baseOf fd n else none
theorem baseTo_nil (fd : List Fnd) : baseTo fd [] = fun _ => none := by funext n; simp [baseTo]
theorem baseTo_snoc {fd : List Fnd} {R : List PT} {j : Nat} {x : PT} (hx : R[j]? = some x) {d : List Int} (hd : baseOf fd x.tag.page = some d) : baseTo fd (R.take (j + 1)) = fput (baseTo fd (R.take j)) x.tag.page (some d) := by
  funext n
  rw [take_snoc' hx]
  by_cases e : n = x.tag.page
  · subst e; rw [fput_self]; simp [baseTo, hd]
  · rw [fput_ne _ e]; simp [baseTo, e]
theorem baseTo_all {fd : List Fnd} {ks : List Int} (hk : ∀ n, n ∈ ks ↔ (newestOf (fd.map Fnd.pt) n).isSome) : baseTo fd (ks.filterMap (pickOf (newestOf (fd.map Fnd.pt)))) = baseOf fd := by
  funext n
  rw [baseTo]
  split
  · rfl
  · rename_i hn
    rw [baseOf]
    cases hp : pickOf (newestOf (fd.map Fnd.pt)) n with
    | none => rfl
    | some x =>
      exfalso
      apply hn
      have h1 : newestOf (fd.map Fnd.pt) n = some x := by
        simp only [pickOf, Option.bind_eq_some_iff] at hp
        obtain ⟨y, hy, he⟩ := hp
        split at he
        · rw [hy, he]
        · cases he
      have h2 := (newest_dom h1).2
      exact List.mem_map.2 ⟨x, List.mem_filterMap.2 ⟨n, (hk n).2 (by rw [h1]; rfl), hp⟩, h2⟩
theorem pick_mem {l : List PT} {ks : List Int} {x : PT} (h : x ∈ ks.filterMap (pickOf (newestOf l))) : x ∈ l ∧ pickOf (newestOf l) x.tag.page = some x := by
  obtain ⟨n, hn, hp⟩ := List.mem_filterMap.1 h
  have h1 : newestOf l n = some x := by
    simp only [pickOf, Option.bind_eq_some_iff] at hp
    obtain ⟨y, hy, he⟩ := hp
    split at he
    · rw [hy, he]
    · cases he
  obtain ⟨h2, h3⟩ := newest_dom h1
  exact ⟨h2, by rw [h3]; exact hp⟩
theorem staleF_snoc {S : List PT} {j : Nat} {x : PT} (h : S[j]? = some x) : staleV (staleF (S.take (j + 1))) = if x.tag.kind = 3 then staleV (staleF (S.take j)) else fput (staleV (staleF (S.take j))) x.tag.page (some (.bool true)) := by
  rw [take_snoc' h]
  by_cases hk : x.tag.kind = 3
  · rw [if_pos hk]; funext n; simp [staleV, staleF, hk]
  · rw [if_neg hk]
    funext n
    by_cases e : n = x.tag.page
    · subst e; rw [fput_self]; simp [staleV, staleF, hk]
    · rw [fput_ne _ e]
      have e' : ¬ x.tag.page = n := fun h => e h.symm
      simp [staleV, staleF, e']

theorem field109d (a b c d : Int) (s1 : Option Addr) (s2 s3 : Nat) (w : World) : (Instr.field 109 (.agg #[i64 a, i64 b, i64 c, i64 d, .slice s1 s2 s3]) 1).run Tryz.prog w = .ok (.slice s1 s2 s3) w := by kernel_rfl

theorem FlashAt.put_base {w w' : World} {X : FA} {F : Fl} (h : FlashAt w X F) (f : Int → Option (List Int)) (hb : BaseAt X.mut w' X.mb f) (ht : Turns (· = X.mb) w w') : FlashAt w' X { F with base := f } := by
  have hmut : X.mut X.mb := .inr (.inr (.inr (.inl rfl)))
  have hmm : ∀ k, k < w.heap.size → k = X.mb → X.mut k := fun k _ hk => by rw [hk]; exact hmut
  have hs' := h.sep
  exact ⟨h.chip.turns ht (fun k hk e => hs'.nfmb (e ▸ hk)) (fun k o e hk => hs'.fs k o e (hk ▸ hmut)), h.row.turns ht hs'.f_mb, h.found.turns ht hmm hs'.mf_mb, hb, h.pend.turns ht hmm (Ne.symm hs'.mb_mp), h.stale.turns ht (Ne.symm hs'.mb_ms), hs'⟩
theorem FlashAt.put_pend {w w' : World} {X : FA} {F : Fl} (h : FlashAt w X F) (f : Int → Option (Option (List Int))) (np : Bool) (hb : PendAt X.mut w' X.mp f np) (ht : Turns (· = X.mp) w w') : FlashAt w' X { F with pend := f, np := np } := by
  have hmut : X.mut X.mp := .inr (.inr (.inr (.inr (.inl rfl))))
  have hmm : ∀ k, k < w.heap.size → k = X.mp → X.mut k := fun k _ hk => by rw [hk]; exact hmut
  have hs' := h.sep
  exact ⟨h.chip.turns ht (fun k hk e => hs'.nfmp (e ▸ hk)) (fun k o e hk => hs'.fs k o e (hk ▸ hmut)), h.row.turns ht hs'.f_mp, h.found.turns ht hmm hs'.mf_mp, h.base.turns ht hmm hs'.mb_mp, hb, h.stale.turns ht (Ne.symm hs'.mp_ms), hs'⟩
theorem FlashAt.put_stale {w w' : World} {X : FA} {F : Fl} (h : FlashAt w X F) (f : Int → Bool) (hb : MapF w' i64 ok64 X.ms (staleV f)) (ht : Turns (· = X.ms) w w') : FlashAt w' X { F with stale := f } := by
  have hmut : X.mut X.ms := .inr (.inr (.inr (.inr (.inr rfl))))
  have hmm : ∀ k, k < w.heap.size → k = X.ms → X.mut k := fun k _ hk => by rw [hk]; exact hmut
  have hs' := h.sep
  exact ⟨h.chip.turns ht (fun k hk e => hs'.nfms (e ▸ hk)) (fun k o e hk => hs'.fs k o e (hk ▸ hmut)), h.row.turns ht hs'.f_ms, h.found.turns ht hmm hs'.mf_ms, h.base.turns ht hmm hs'.mb_ms, h.pend.turns ht hmm hs'.mp_ms, hb, hs'⟩
theorem BaseAt.put {M : Nat → Prop} {w w' : World} {b : Nat} {f : Int → Option (List Int)} {g : Int → Option Value} (hg : ∀ n, OptAt M w (g n) (f n)) (n : Int) {v : Value} {d : List Int} (hv : BytesAt M w v d) (hm : MapF w' i64 ok64 b (fput g n (some v))) (ht : Turns (· = b) w w') (hb : M b) : BaseAt M w' b (fput f n (some d)) := by
  have hmm : ∀ k, k < w.heap.size → k = b → M k := fun k _ hk => by rw [hk]; exact hb
  refine ⟨_, hm, fun k => ?_⟩
  by_cases e : k = n
  · subst e; rw [fput_self, fput_self]; exact hv.turns ht hmm
  · rw [fput_ne _ e, fput_ne _ e]; exact (hg k).turns ht hmm
end Go.Proofs.YthghhcnpbehaiaaGreat

/- The flash: what is asked. -/
namespace Go.Proofs.YthghhcnpbehaiaaGreat
open Go.RowKit

def Fl.logical (F : Fl) : Int := F.C.g.logical
/-- What is wrong ahead of a call for a page. -/
def Fl.asked (F : Fl) (n : Int) : Int := if F.C.off then 9 else if 0 ≤ n ∧ n < F.logical then 0 else 2
/-- A page, as it is now. -/
def Fl.get (F : Fl) (n : Int) : Option (List Int) := match F.pend n with
  | some o => o
  | none => F.base n

set_option maxHeartbeats 2000000 in
set_option maxRecDepth 100000 in
theorem asked69 {w : World} {X : FA} {F : Fl} (h : FlashAt w X F) (n : Int) : Calls Tryz.prog 69 #[ptr X.f, i64 n] w fun e w' => e = .returned (i64 (F.asked n)) ∧ Below w.heap.size w w' := by
  have c0 := h.row.cell0 0 rfl
  have c1 := h.row.cell0 1 rfl
  have c2 := h.row.cell0 2 rfl
  have c3 := h.row.cell0 3 rfl
  have c4 := h.row.cell0 4 rfl
  have c5 := h.row.cell0 5 rfl
  have hon := on59 h.chip
  cases hoff : F.C.off
  · rw [hoff] at hon
    have HON := Lib.hid hon
    have e1 : F.asked n = if 0 ≤ n ∧ n < F.logical then 0 else 2 := by simp [Fl.asked, hoff]
    have hlg := fun wx => logical75 F.C.g wx
    rw [show F.C.g.logical = F.logical from rfl] at hlg
    have HLG := Lib.hid hlg
    generalize F.logical = m at *
    clear hon hoff hlg
    by_cases hn : n < 0
    · have e2 : F.asked n = 2 := by rw [e1, if_neg (by omega)]
      rw [e2]; clear e1 e2
      go_enter Tryz.func69, Tryz.ntmps69
      go_wp2_with fail
      refine HON.out.mono ?_
      rintro e w1 ⟨rfl, rfl⟩
      go_wp2_with fail
      go_ret
      exact ⟨rfl, by (repeat (first | exact Below.refl _ _ | assumption | (with_reducible refine Below.drew ?_) | (with_reducible refine below_drewN' ?_ _) | (with_reducible refine ext_alloc ?_ ?_; · (first | omega | (simp only [World.size_alloc, World.size_setCell, World.size_drew, World.heap_drewN]; omega) | (simp; omega))) | (with_reducible refine ext_setCell ?_ ?_; · (first | omega | (simp only [World.size_alloc, World.size_setCell, World.size_drew, World.heap_drewN]; omega) | (simp; omega))) | (refine ext_call (by assumption) ?_ ?_; · (first | omega | (simp only [World.size_alloc, World.size_setCell, World.size_drew, World.heap_drewN]; omega) | (simp; omega)))))⟩
    · by_cases hm : n < m
      · have e2 : F.asked n = 0 := by rw [e1, if_pos (by omega)]
        rw [e2]; clear e1 e2
        go_enter Tryz.func69, Tryz.ntmps69
        go_wp2_with fail
        refine HON.out.mono ?_
        rintro e w1 ⟨rfl, rfl⟩
        go_wp2_with fail
        refine (HLG.out _).mono ?_
        rintro e w1 ⟨rfl, hb⟩
        go_wp2_with fail
        go_ret
        exact ⟨rfl, by (repeat (first | exact Below.refl _ _ | assumption | (with_reducible refine Below.drew ?_) | (with_reducible refine below_drewN' ?_ _) | (with_reducible refine ext_alloc ?_ ?_; · (first | omega | (simp only [World.size_alloc, World.size_setCell, World.size_drew, World.heap_drewN]; omega) | (simp; omega))) | (with_reducible refine ext_setCell ?_ ?_; · (first | omega | (simp only [World.size_alloc, World.size_setCell, World.size_drew, World.heap_drewN]; omega) | (simp; omega))) | (refine ext_call (by assumption) ?_ ?_; · (first | omega | (simp only [World.size_alloc, World.size_setCell, World.size_drew, World.heap_drewN]; omega) | (simp; omega)))))⟩
      · have e2 : F.asked n = 2 := by rw [e1, if_neg (by omega)]
        rw [e2]; clear e1 e2
        go_enter Tryz.func69, Tryz.ntmps69
        go_wp2_with fail
        refine HON.out.mono ?_
        rintro e w1 ⟨rfl, rfl⟩
        go_wp2_with fail
        refine (HLG.out _).mono ?_
        rintro e w1 ⟨rfl, hb⟩
        go_wp2_with fail
        go_ret
        exact ⟨rfl, by (repeat (first | exact Below.refl _ _ | assumption | (with_reducible refine Below.drew ?_) | (with_reducible refine below_drewN' ?_ _) | (with_reducible refine ext_alloc ?_ ?_; · (first | omega | (simp only [World.size_alloc, World.size_setCell, World.size_drew, World.heap_drewN]; omega) | (simp; omega))) | (with_reducible refine ext_setCell ?_ ?_; · (first | omega | (simp only [World.size_alloc, World.size_setCell, World.size_drew, World.heap_drewN]; omega) | (simp; omega))) | (refine ext_call (by assumption) ?_ ?_; · (first | omega | (simp only [World.size_alloc, World.size_setCell, World.size_drew, World.heap_drewN]; omega) | (simp; omega)))))⟩
  · rw [hoff] at hon
    have HON := Lib.hid hon
    have e2 : F.asked n = 9 := by simp [Fl.asked, hoff]
    rw [e2]
    clear hon hoff e2
    go_enter Tryz.func69, Tryz.ntmps69
    go_wp2_with fail
    refine HON.out.mono ?_
    rintro e w1 ⟨rfl, rfl⟩
    go_wp2_with fail
    go_ret
    exact ⟨rfl, by (repeat (first | exact Below.refl _ _ | assumption | (with_reducible refine Below.drew ?_) | (with_reducible refine below_drewN' ?_ _) | (with_reducible refine ext_alloc ?_ ?_; · (first | omega | (simp only [World.size_alloc, World.size_setCell, World.size_drew, World.heap_drewN]; omega) | (simp; omega))) | (with_reducible refine ext_setCell ?_ ?_; · (first | omega | (simp only [World.size_alloc, World.size_setCell, World.size_drew, World.heap_drewN]; omega) | (simp; omega))) | (refine ext_call (by assumption) ?_ ?_; · (first | omega | (simp only [World.size_alloc, World.size_setCell, World.size_drew, World.heap_drewN]; omega) | (simp; omega)))))⟩

set_option maxHeartbeats 2000000 in
set_option maxRecDepth 100000 in
theorem get82 {w : World} {X : FA} {F : Fl} (h : FlashAt w X F) (n : Int) (hn : ok64 n) : Calls Tryz.prog 82 #[ptr X.f, i64 n] w fun e w' => (∃ v, e = .returned (.tuple #[v, .bool (F.get n).isSome]) ∧ ∀ d, F.get n = some d → BytesAt X.mut w v d) ∧ w = w' := by
  have c7 := h.row.cell0 7 rfl
  have c8 := h.row.cell0 8 rfl
  obtain ⟨l, hm, hok, hp, _⟩ := h.pend
  obtain ⟨g, hg, hb⟩ := h.base
  have hpn := hp n
  have hbn := hb n
  have HMP : Hid (MapF w i64 ok64 X.mp (look l)) := ⟨l, hm, rfl, hok⟩
  have HG := Lib.hid hg
  have HN := Lib.hid hn
  clear hm hg hn hp hb
  cases hq : F.pend n with
  | some o =>
    rw [hq] at hpn
    cases hl : look l n with
    | none => rw [hl] at hpn; simp only [Opt2At] at hpn
    | some v =>
      rw [hl] at hpn
      have HL := Lib.hid hl
      cases o with
      | none =>
        simp only [Opt2At] at hpn
        subst hpn
        have e1 : F.get n = none := by simp [Fl.get, hq]
        rw [e1]
        clear hl hbn hq e1
        go_enter Tryz.func82, Tryz.ntmps82
        go_wp2_with (first | (at_lookup; (apply wpl_look_some HMP.out keysI Tryz.underlying98 Tryz.zeroValue37 n HN.out HL.out; (· (repeat (first | exact Below.refl _ _ | assumption | (with_reducible refine Below.drew ?_) | (with_reducible refine below_drewN' ?_ _) | (with_reducible refine ext_alloc ?_ ?_; · (first | omega | (simp only [World.size_alloc, World.size_setCell, World.size_drew, World.heap_drewN]; omega) | (simp; omega))) | (with_reducible refine ext_setCell ?_ ?_; · (first | omega | (simp only [World.size_alloc, World.size_setCell, World.size_drew, World.heap_drewN]; omega) | (simp; omega))) | (refine ext_call (by assumption) ?_ ?_; · (first | omega | (simp only [World.size_alloc, World.size_setCell, World.size_drew, World.heap_drewN]; omega) | (simp; omega)))))); (· rfl); (· rfl); (· rfl); (· rfl))))
        go_ret2
        exact ⟨⟨_, rfl, fun d hd => by cases hd⟩, rfl⟩
      | some d =>
        simp only [Opt2At] at hpn
        obtain ⟨b, o, c, rfl, r1, r2, r3, r4⟩ := hpn
        have e1 : F.get n = some d := by simp [Fl.get, hq]
        rw [e1]
        have HR := Lib.hid r3
        have H2 := Lib.hid r2
        have H4 := Lib.hid r4
        clear hl hbn hq e1 r3 r2 r4
        go_enter Tryz.func82, Tryz.ntmps82
        go_wp2_with (first | (at_lookup; (apply wpl_look_some HMP.out keysI Tryz.underlying98 Tryz.zeroValue37 n HN.out HL.out; (· (repeat (first | exact Below.refl _ _ | assumption | (with_reducible refine Below.drew ?_) | (with_reducible refine below_drewN' ?_ _) | (with_reducible refine ext_alloc ?_ ?_; · (first | omega | (simp only [World.size_alloc, World.size_setCell, World.size_drew, World.heap_drewN]; omega) | (simp; omega))) | (with_reducible refine ext_setCell ?_ ?_; · (first | omega | (simp only [World.size_alloc, World.size_setCell, World.size_drew, World.heap_drewN]; omega) | (simp; omega))) | (refine ext_call (by assumption) ?_ ?_; · (first | omega | (simp only [World.size_alloc, World.size_setCell, World.size_drew, World.heap_drewN]; omega) | (simp; omega)))))); (· rfl); (· rfl); (· rfl); (· rfl))))
        go_ret2
        exact ⟨⟨_, rfl, fun d' hd => by cases hd; exact ⟨b, o, c, rfl, r1, H2.out, HR.out, H4.out⟩⟩, rfl⟩
  | none =>
    rw [hq] at hpn
    have e0 : F.get n = F.base n := by simp [Fl.get, hq]
    rw [e0]
    have hl : look l n = none := by
      cases hl : look l n with
      | none => rfl
      | some v => rw [hl] at hpn; simp only [Opt2At] at hpn
    have HL := Lib.hid hl
    clear hl hpn hq e0
    cases hbb : F.base n with
    | none =>
      have hgn : g n = none := by
        cases hgn : g n with
        | none => rfl
        | some v => rw [hbb, hgn] at hbn; simp only [OptAt] at hbn
      have HGN := Lib.hid hgn
      clear hgn hbn hbb
      have tok1 : True := trivial
      go_enter Tryz.func82, Tryz.ntmps82
      go_wp2_with (first | (at_lookup; have _t := tok1; (apply wpl_look_none HMP.out keysI Tryz.underlying98 Tryz.zeroValue37 n HN.out HL.out; (· (repeat (first | exact Below.refl _ _ | assumption | (with_reducible refine Below.drew ?_) | (with_reducible refine below_drewN' ?_ _) | (with_reducible refine ext_alloc ?_ ?_; · (first | omega | (simp only [World.size_alloc, World.size_setCell, World.size_drew, World.heap_drewN]; omega) | (simp; omega))) | (with_reducible refine ext_setCell ?_ ?_; · (first | omega | (simp only [World.size_alloc, World.size_setCell, World.size_drew, World.heap_drewN]; omega) | (simp; omega))) | (refine ext_call (by assumption) ?_ ?_; · (first | omega | (simp only [World.size_alloc, World.size_setCell, World.size_drew, World.heap_drewN]; omega) | (simp; omega)))))); (· rfl); (· rfl); (· rfl); (· rfl)); clear tok1) | (at_lookup; (apply wpl_look_none HG.out keysI Tryz.underlying98 Tryz.zeroValue37 n HN.out HGN.out; (· (repeat (first | exact Below.refl _ _ | assumption | (with_reducible refine Below.drew ?_) | (with_reducible refine below_drewN' ?_ _) | (with_reducible refine ext_alloc ?_ ?_; · (first | omega | (simp only [World.size_alloc, World.size_setCell, World.size_drew, World.heap_drewN]; omega) | (simp; omega))) | (with_reducible refine ext_setCell ?_ ?_; · (first | omega | (simp only [World.size_alloc, World.size_setCell, World.size_drew, World.heap_drewN]; omega) | (simp; omega))) | (refine ext_call (by assumption) ?_ ?_; · (first | omega | (simp only [World.size_alloc, World.size_setCell, World.size_drew, World.heap_drewN]; omega) | (simp; omega)))))); (· rfl); (· rfl); (· rfl); (· rfl))))
      go_ret2
      exact ⟨⟨_, rfl, fun d hd => by cases hd⟩, rfl⟩
    | some d =>
      rw [hbb] at hbn
      cases hgn : g n with
      | none => rw [hgn] at hbn; simp only [OptAt] at hbn
      | some v =>
        rw [hgn] at hbn
        simp only [OptAt] at hbn
        obtain ⟨b, o, c, rfl, r1, r2, r3, r4⟩ := hbn
        have HGN := Lib.hid hgn
        have HR := Lib.hid r3
        have H2 := Lib.hid r2
        have H4 := Lib.hid r4
        clear hgn hbb r3 r2 r4
        have tok1 : True := trivial
        go_enter Tryz.func82, Tryz.ntmps82
        go_wp2_with (first | (at_lookup; have _t := tok1; (apply wpl_look_none HMP.out keysI Tryz.underlying98 Tryz.zeroValue37 n HN.out HL.out; (· (repeat (first | exact Below.refl _ _ | assumption | (with_reducible refine Below.drew ?_) | (with_reducible refine below_drewN' ?_ _) | (with_reducible refine ext_alloc ?_ ?_; · (first | omega | (simp only [World.size_alloc, World.size_setCell, World.size_drew, World.heap_drewN]; omega) | (simp; omega))) | (with_reducible refine ext_setCell ?_ ?_; · (first | omega | (simp only [World.size_alloc, World.size_setCell, World.size_drew, World.heap_drewN]; omega) | (simp; omega))) | (refine ext_call (by assumption) ?_ ?_; · (first | omega | (simp only [World.size_alloc, World.size_setCell, World.size_drew, World.heap_drewN]; omega) | (simp; omega)))))); (· rfl); (· rfl); (· rfl); (· rfl)); clear tok1) | (at_lookup; (apply wpl_look_some HG.out keysI Tryz.underlying98 Tryz.zeroValue37 n HN.out HGN.out; (· (repeat (first | exact Below.refl _ _ | assumption | (with_reducible refine Below.drew ?_) | (with_reducible refine below_drewN' ?_ _) | (with_reducible refine ext_alloc ?_ ?_; · (first | omega | (simp only [World.size_alloc, World.size_setCell, World.size_drew, World.heap_drewN]; omega) | (simp; omega))) | (with_reducible refine ext_setCell ?_ ?_; · (first | omega | (simp only [World.size_alloc, World.size_setCell, World.size_drew, World.heap_drewN]; omega) | (simp; omega))) | (refine ext_call (by assumption) ?_ ?_; · (first | omega | (simp only [World.size_alloc, World.size_setCell, World.size_drew, World.heap_drewN]; omega) | (simp; omega)))))); (· rfl); (· rfl); (· rfl); (· rfl))))
        go_ret2
        exact ⟨⟨_, rfl, fun d' hd => by cases hd; exact ⟨b, o, c, rfl, r1, H2.out, HR.out, H4.out⟩⟩, rfl⟩
end Go.Proofs.YthghhcnpbehaiaaGreat
