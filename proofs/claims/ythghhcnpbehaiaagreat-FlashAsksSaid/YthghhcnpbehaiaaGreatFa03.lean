/- A region whose order is drawn: operations ahead that read, or call what leaves all that is asked as it was, and a chain behind. -/
import Derived.Test.YthghhcnpbehaiaaGreatFa01
import Derived.StillTail

namespace Go.Proofs.YthghhcnpbehaiaaGreat
open Go.RowKit

section
variable {P : Program} {ops : Array Oper} {md : Region.Mode} {J : World → Prop}

def givesUpon (P : Program) (J : World → Prop) (v : Value) : Result Next → Prop
  | .ok (.value u) w' => u = v ∧ J w'
  | .ok .skip w' => v = undef ∧ J w'
  | .ok (.enter f args) w' => Calls P f args w' fun e w'' => e = .returned v ∧ J w''
  | _ => False

/-- Under a the operation gives v, in whatever world J holds of. -/
def KY (P : Program) (ops : Array Oper) (J : World → Prop) (o : Oper) (v : Value) (a : Act) : Prop :=
  (Region.wanted o (yielded ops a.tmps) = true ∧ ∀ w, J w → givesUpon P J v ((execOp a.eval o).run P w)) ∨ (Region.wanted o (yielded ops a.tmps) = false ∧ v = undef)

def wpKeep (P : Program) (ops : Array Oper) (J : World → Prop) (Q : Act → Prop) : List Oper → Act → Prop
  | [], a => Q a
  | o :: rest, a => ∃ v, KY P ops J o v a ∧ wpKeep P ops J Q rest (a.put o.dst v)

def kp (P : Program) (ops : Array Oper) (J : World → Prop) (i : Nat) (K : Act → Prop) (a : Act) : Prop :=
  match ops[i]? with
  | none => K a
  | some o => ∃ v, KY P ops J o v a ∧ K (a.put o.dst v)

theorem kp_mono {i : Nat} {a : Act} {K K' : Act → Prop} (h : ∀ a, K a → K' a) (hh : kp P ops J i K a) : kp P ops J i K' a := by
  unfold kp at *
  split
  · exact h _ (by simpa [*] using hh)
  · rename_i o ho
    simp only [ho] at hh
    obtain ⟨v, h1, h2⟩ := hh
    exact ⟨v, h1, h _ h2⟩

theorem KY.of_same {o : Oper} {v : Value} {a a' : Act} (hy : KY P ops J o v a) (he : execOp a'.eval o = execOp a.eval o)
    (hw : Region.wanted o (yielded ops a'.tmps) = Region.wanted o (yielded ops a.tmps)) : KY P ops J o v a' := by
  unfold KY at *
  rw [he, hw]
  exact hy

theorem wpOp_of_kp {Q' : Exit → Act → World → Prop} {i : Nat} {a : Act} {w : World} {K : Act → Prop} {K' : Act → World → Prop} (h : ∀ a w, K a → J w → K' a w) (hw : J w) (hh : kp P ops J i K a) :
    wpOp P ops Q' i K' a w := by
  unfold kp at hh
  unfold wpOp
  split
  · rename_i ho; simp only [ho] at hh; exact h _ _ hh hw
  · rename_i o ho
    simp only [ho] at hh
    obtain ⟨v, hy, hK⟩ := hh
    split
    · rename_i hwt
      rcases hy with ⟨_, hy⟩ | ⟨hn, _⟩
      · refine .inl ?_
        have hy := hy w hw
        unfold Oper.wp
        generalize (execOp a.eval o).run P w = r at *
        cases r with
        | ok n w' =>
          cases n <;> simp only [givesUpon] at hy <;> simp only [Oper.upon]
          case value u => obtain ⟨rfl, hj⟩ := hy; exact h _ _ hK hj
          case skip => obtain ⟨rfl, hj⟩ := hy; exact h _ _ hK hj
          case enter f args => exact hy.mono fun e w'' ⟨he, hj⟩ => by subst he; exact h _ _ hK hj
        | halt x w' => simp only [givesUpon] at hy
      · rw [hn] at hwt; cases hwt
    · rename_i hwt
      rcases hy with ⟨hn, _⟩ | ⟨_, hv⟩
      · exact absurd hn hwt
      · subst hv; exact h _ _ hK hw

theorem act_put_comm (a : Act) {d e : Option Tmp} (h : ∀ x, d = some x → e ≠ some x) (u v : Value) : (a.put d u).put e v = (a.put e v).put d u := by
  cases d with
  | none => rfl
  | some x =>
    cases e with
    | none => rfl
    | some y =>
      have hxy : x ≠ y := fun e => h x rfl (by rw [e])
      simp only [Act.put]
      rw [Array.setIfInBounds_comm _ _ hxy]

theorem kp_put {j : Nat} {oi oj : Oper} {v : Value} (hj : ops[j]? = some oj) (hap : oi.apart ops oj = true)
    (hsi : ∀ cs b, oi.op ≠ .select cs b) (hsj : ∀ cs b, oj.op ≠ .select cs b) {K : Act → Prop} {a : Act}
    (hy : KY P ops J oi v a) (h : kp P ops J j K (a.put oi.dst v)) :
    kp P ops J j (fun a' => KY P ops J oi v a' ∧ K (a'.put oi.dst v)) a := by
  obtain ⟨h1, h2, h3⟩ := Oper.apart_spec hap
  unfold kp at *
  simp only [hj] at *
  obtain ⟨u, hu, hK⟩ := h
  refine ⟨u, hu.of_same (execOp_put oj hsj a oi.dst v h1).symm (wanted_put oj a oi.dst v h1).symm, hy.of_same (execOp_put oi hsi a oj.dst u h3) (wanted_put oi a oj.dst u h3), ?_⟩
  rw [← act_put_comm a (d := oi.dst) (e := oj.dst) h2]
  exact hK

def kpAnyL (P : Program) (md : Region.Mode) (ops : Array Oper) (J : World → Prop) (n : Nat) (L : Array Bool → Act → Prop) : Nat → Array Bool → Act → Prop
  | 0, listed, a => L listed a
  | f + 1, listed, a =>
    Region.ready md ops listed ≠ [] ∧ ∀ i ∈ Region.ready md ops listed, i < n ∧ kp P ops J i (kpAnyL P md ops J n L f (listed.setIfInBounds i true)) a

theorem wpAny_of_kp {n g : Nat} {L : Array Bool → Act → Prop} {Q' : Exit → Act → World → Prop} (hL : ∀ listed a w, L listed a → J w → wpAny P md ops Q' g listed a w) :
    ∀ (f : Nat) (listed : Array Bool) (a : Act) (w : World), J w → kpAnyL P md ops J n L f listed a → wpAny P md ops Q' (f + g) listed a w
  | 0, listed, a, w, hw, h => by rw [Nat.zero_add]; exact hL _ _ _ h hw
  | f + 1, listed, a, w, hw, h => by
    rw [show f + 1 + g = (f + g) + 1 by omega]
    exact ⟨fun h0 => absurd h0 h.1, fun i hi => wpOp_of_kp (fun a' w' h' hw' => wpAny_of_kp hL f _ a' w' hw' h') hw (h.2 i hi).2⟩

theorem kpAnyL_first {n i : Nat} {oi : Oper} {v : Value} {L : Array Bool → Act → Prop} (hi : ops[i]? = some oi) (hsel : ∀ (j : Nat) (o : Oper) cs b, ops[j]? = some o → o.op ≠ .select cs b)
    (hs : Region.sinkB md ops n = true) (hc : Region.chainB md ops n = true) (hn : n < ops.size) (hin : i < n)
    (hdone : ∀ listed a, L listed a → ∀ j ∈ Region.ready md ops listed, n ≤ j) :
    ∀ (f : Nat) (listed : Array Bool) (a : Act), HeadInv md ops n listed →
      (∀ j oj, ops[j]? = some oj → j ≠ i → listed.getD j true = false → (∀ e ∈ oj.after, Region.binds md e = true → e.on ≠ i) → oi.apart ops oj = true) →
      i ∈ Region.ready md ops listed → KY P ops J oi v a →
      kpAnyL P md ops J n L f (listed.setIfInBounds i true) (a.put oi.dst v) → kpAnyL P md ops J n L (f + 1) listed a := by
  have here : ∀ {K : Act → Prop} {a : Act}, KY P ops J oi v a → K (a.put oi.dst v) → kp P ops J i K a := fun hy h => by unfold kp; simp only [hi]; exact ⟨v, hy, h⟩
  intro f
  induction f with
  | zero =>
    intro listed a inv _ hr hy H
    have hun := (mem_ready.1 hr).1
    refine ⟨fun h => (by rw [h] at hr; cases hr), fun j hj => ?_⟩
    have hjn : j < n := by
      rcases Nat.lt_or_ge j n with h | h
      · exact h
      · exact absurd hj (tail_waits hs hc hn inv _ i rfl hin hun j h)
    refine ⟨hjn, ?_⟩
    by_cases hji : j = i
    · subst hji; exact here hy H
    · have := hdone _ _ H j (ready_mono hj hji)
      omega
  | succ f ih =>
    intro listed a inv hfree hr hy H
    have hun := (mem_ready.1 hr).1
    refine ⟨fun h => (by rw [h] at hr; cases hr), fun j hj => ?_⟩
    have hjn : j < n := by
      rcases Nat.lt_or_ge j n with h | h
      · exact h
      · exact absurd hj (tail_waits hs hc hn inv _ i rfl hin hun j h)
    refine ⟨hjn, ?_⟩
    by_cases hji : j = i
    · subst hji; exact here hy H
    · have h1 := (H.2 j (ready_mono hj hji)).2
      obtain ⟨hjun, oj, hoj, hall⟩ := mem_ready.1 hj
      have hnot : ∀ e ∈ oj.after, Region.binds md e = true → e.on ≠ i := fun e he hb heq => by
        have h1 := hall e he hb
        rw [heq, getD_both hun] at h1
        cases h1
      have h2 := kp_put hoj (hfree j oj hoj hji hjun hnot) (fun cs b => hsel i oi cs b hi) (fun cs b => hsel j oj cs b hoj) hy h1
      have hfree' : ∀ k ok, ops[k]? = some ok → k ≠ i → (listed.setIfInBounds j true).getD k true = false →
          (∀ e ∈ ok.after, Region.binds md e = true → e.on ≠ i) → oi.apart ops ok = true := fun k ok hk hki hun hno => by
        refine hfree k ok hk hki ?_ hno
        by_cases hjk : j = k
        · subst hjk; exact hjun
        · rw [getD_set_ne true hjk] at hun; exact hun
      refine kp_mono (fun a' h3 => ih (listed.setIfInBounds j true) a' (inv.set hj hjn) hfree' (ready_mono hr (Ne.symm hji)) h3.1 ?_) h2
      rw [Array.setIfInBounds_comm _ _ hji]
      exact h3.2

theorem kpAnyL_lex {n g : Nat} {Lq : Act → Prop} (hsel : Region.noSelect ops = true) (hs : Region.sinkB md ops n = true) (hc : Region.chainB md ops n = true) (hn : n < ops.size) :
    ∀ (l : List Oper) (k : Nat) (listed : Array Bool) (a : Act), (∀ j, j < l.length → l[j]? = ops[k + j]?) → k + l.length = n → HeadInv md ops n listed →
    Region.lexHead md ops g l.length k listed = true → wpKeep P ops J Lq l a →
    kpAnyL P md ops J n (fun listed' a' => Region.seqB md ops g n listed' = true ∧ Lq a') l.length listed a
  | [], k, listed, a, _, hk, _, hB, h => by
    have : k = n := by simpa using hk
    subst this
    exact ⟨by simpa [Region.lexHead] using hB, h⟩
  | o :: l, k, listed, a, hl, hk, inv, hB, h => by
    have h0 : ops[k]? = some o := by simpa using (hl 0 (by simp)).symm
    simp only [List.length_cons, Region.lexHead, Bool.and_eq_true] at hB
    obtain ⟨⟨hr, hf⟩, hB'⟩ := hB
    have hkn : k < n := by simp only [List.length_cons] at hk; omega
    have hr' : k ∈ Region.ready md ops listed := by simpa using hr
    obtain ⟨v, hy, hK⟩ := h
    exact kpAnyL_first h0 (Region.noSelect_spec hsel) hs hc hn hkn (fun listed' a' hL => seqB_ready hL.1) l.length listed a inv (Region.free_spec h0 hf) hr' hy
      (kpAnyL_lex hsel hs hc hn l (k + 1) _ _ (fun j hj => by have := hl (j + 1) (by simp; omega); simpa [Nat.add_assoc, Nat.add_comm 1 j] using this) (by simp only [List.length_cons] at hk; omega) (inv.set hr' hkn) hB' hK)

/-- The law: J holds when the region begins; the n operations ahead are walked one by one, as the text has them; then the rest, in a world of which J holds. -/
theorem wp_region_keep {id : Nat} {Q : Exit → Act → World → Prop} {a : Act} {w : World} {l : List Oper} (n : Nat) (J : World → Prop) (hm : P.follows .mixedOrders = true) (hB : Region.lexTailB .any l.toArray n = true)
    (hJ : J w.drew)
    (h : wpKeep P l.toArray J (fun a' => ∀ w', J w' → wpList P l.toArray Q (l.drop n) a' w') (l.take n) a) : (Code.region id l.toArray true).wp P Q a w := by
  simp only [Region.lexTailB, Bool.and_eq_true, decide_eq_true_eq] at hB
  obtain ⟨⟨⟨⟨hsel, hn⟩, hs⟩, hc⟩, hlex⟩ := hB
  have hn' : n < l.length := by simpa using hn
  have htl : (l.take n).length = n := by simp; omega
  have inv0 : HeadInv .any l.toArray n (Array.replicate l.toArray.size false) :=
    ⟨by simp, fun j oj _ hl => (by rw [getD_replicate_false] at hl; cases hl), fun t _ ht => getD_in (by simpa using ht) (getD_replicate_false _ _)⟩
  have H := kpAnyL_lex (md := .any) (g := l.toArray.size - n) hsel hs hc hn (l.take n) 0 _ a (fun j hj => by
    have hj' : j < n := by rw [htl] at hj; exact hj
    simp [hj']) (by simpa using htl) inv0 (by rw [htl]; exact hlex) h
  refine wp_region_any hm ?_
  have hdl : (l.drop n).length = l.toArray.size - n := by simp
  have H2 := wpAny_of_kp (Q' := Q) (g := l.toArray.size - n) (fun listed a' w' hL hw' => by
    have := wpAny_of_seq (md := .any) (Q' := Q) (P := P) (ops := l.toArray) (l.drop n) n listed a' w' (fun j => by simp) (by rw [hdl]; exact hL.1) (hL.2 w' hw')
    rwa [hdl] at this) (l.take n).length _ a _ hJ H
  rw [htl] at H2
  have e0 : l.toArray.size = l.length := by simp
  have e : n + (l.toArray.size - n) = l.toArray.size := by omega
  rwa [e] at H2

theorem keep_yes {Q : Act → Prop} {o : Oper} {rest : List Oper} {a : Act} {v : Value} (hw : Region.wanted o (yielded ops a.tmps) = true) (h : ∀ w, J w → givesUpon P J v ((execOp a.eval o).run P w))
    (h2 : wpKeep P ops J Q rest (a.put o.dst v)) : wpKeep P ops J Q (o :: rest) a := ⟨v, .inl ⟨hw, h⟩, h2⟩
theorem keep_no {Q : Act → Prop} {o : Oper} {rest : List Oper} {a : Act} (hw : Region.wanted o (yielded ops a.tmps) = false)
    (h2 : wpKeep P ops J Q rest (a.put o.dst undef)) : wpKeep P ops J Q (o :: rest) a := ⟨undef, .inr ⟨hw, rfl⟩, h2⟩
theorem keep_nil {Q : Act → Prop} {a : Act} (h : Q a) : wpKeep P ops J Q [] a := h
theorem gives_value {u v : Value} {w : World} (h : u = v) (hj : J w) : givesUpon P J v (.ok (.value u) w) := ⟨h, hj⟩
theorem gives_of {r : Result Next} {u v : Value} {w : World} (hr : r = .ok (.value u) w) (h : u = v) (hj : J w) : givesUpon P J v r := by rw [hr]; exact ⟨h, hj⟩
theorem gives_call {r : Result Next} {f : FuncId} {args : Array Value} {v : Value} {w : World} (hr : r = .ok (.enter f args) w) (h : Calls P f args w fun e w'' => e = .returned v ∧ J w'') : givesUpon P J v r := by rw [hr]; exact h
end
end Go.Proofs.YthghhcnpbehaiaaGreat

/- Bytes that a call makes; slices.Clone of bytes. -/
namespace Go.Proofs.YthghhcnpbehaiaaGreat
open Go.RowKit

/-- v is a slice of just the bytes l, in a block of its own from B on. -/
def Fresh (B : Nat) (w : World) (l : List Int) (v : Value) : Prop := ∃ g c, v = .slice (some ⟨g, 0, none⟩) l.length c ∧ B ≤ g ∧ g < w.heap.size ∧ l.length ≤ c ∧ Row w g 0 (l.map u8)

theorem own_row {w : World} {base e n g cap : Nat} {xs : List Value} (h : w.ownsRow base e 1 (.slice (some ⟨g, 0, none⟩) n cap) n xs) : base ≤ g ∧ g < w.heap.size ∧ n ≤ cap ∧ Row w g 0 xs := by
  obtain ⟨hl, ⟨h1, h2⟩ | ⟨g', cap', cur, hv, hb, hh, hc1, hc2, hs, ht⟩⟩ := h
  · cases h1
  · simp only [Value.slice.injEq, Option.some.injEq, Addr.mk.injEq, and_true, true_and] at hv
    obtain ⟨rfl, rfl⟩ := hv
    refine ⟨hb, (Array.getElem?_eq_some_iff.1 hh).1, hc1, fun i v hi => ?_⟩
    rw [Nat.zero_add]
    have hin : i < xs.length := (List.getElem?_eq_some_iff.1 hi).1
    refine ⟨?_, by simp [World.frozen?, hh]⟩
    simp only [World.cell?, hh, Option.isSome_none, Bool.false_eq_true, if_false]
    rw [← ht, List.getElem?_take] at hi
    rw [hl] at hin
    rw [if_pos hin] at hi
    simpa using hi

theorem own_some {w : World} {base e n : Nat} {v : Value} {xs : List Value} (h : w.ownsRow base e 1 v n xs) (hn : v ≠ .slice none 0 0) : ∃ g cap, v = .slice (some ⟨g, 0, none⟩) n cap := by
  obtain ⟨_, ⟨h1, h2⟩ | ⟨g', cap', cur, hv, _⟩⟩ := h
  · exact absurd h1 hn
  · exact ⟨g', cap', hv⟩

theorem info5 : (Tryz.prog.info? 5).map (fun i => (i.zero, i.size, i.bytes)) = some (some (.int .u8 0), 1, 1) := by kernel_rfl

theorem grown_below {w w' : World} {row : Option Nat} {B : Nat} (h : w.grownBy w' row) (hB : B ≤ w.heap.size) (hr : ∀ g, row = some g → B ≤ g) : Below B w w' :=
  ⟨h.os, h.tape, h.output, h.size, fun k hk => h.block k (by omega) (fun e => by have := hr k e.symm; omega)⟩

theorem heap_new (w : World) (o : Obj) : (w.alloc o).heap[w.heap.size]? = some o := by
  show (w.heap.push o)[w.heap.size]? = some o
  simp

set_option maxHeartbeats 2000000 in
set_option maxRecDepth 100000 in
theorem clone70 {w : World} (l : List Int) (b off cap : Nat) (hr : Row w b off (l.map u8)) (hl : l.length ≤ 100000) (hne : 0 < l.length) :
    Calls Tryz.prog 70 #[.slice (some ⟨b, off, none⟩) l.length cap] w fun e w' => (∃ v, e = .returned v ∧ Fresh w.heap.size w' l v) ∧ Below w.heap.size w w' := by
  have hlt : b < w.heap.size := hr.lt (by intro e; rw [List.map_eq_nil_iff.1 e] at hne; exact absurd hne (by decide))
  obtain ⟨i0, hi, hz0, hz1, hz2⟩ := info_parts info5
  have hown : (w.alloc (.cells #[] 5)).ownsRow w.heap.size 5 1 (.slice (some ⟨w.heap.size, 0, none⟩) 0 0) 0 [] :=
    ⟨rfl, .inr ⟨w.heap.size, 0, #[], rfl, Nat.le_refl _, heap_new _ _, Nat.le_refl _, by decide, rfl, rfl⟩⟩
  have hcells : ∀ j u, (l.map u8)[j]? = some u → (w.alloc (.cells #[] 5)).cell? ((⟨b, off, none⟩ : Addr).add j) = some u := by
    intro j u hj
    have e : (⟨b, off, none⟩ : Addr).add j = ⟨b, off + j, none⟩ := by unfold Addr.add; split <;> simp [*]
    rw [e, World.cell?_alloc_lt _ _ _ hlt]
    exact (hr j u hj).1
  have H1 := Lib.hid hcells; clear hcells
  have H2 := Lib.hid hr; clear hr
  have hnl := Lib.run_eql_slice_nil (P := Tryz.prog)
  go_enter Tryz.func70, Tryz.ntmps70
  go_wp2_with (at_builtin; refine wpList_append_own _ rfl _ _ 37 rfl w.heap.size 5 i0 (.int .u8 0) 1 1 Tryz.underlying37 hi hz0 hz1 hz2 rfl (by decide) _ _ _ rfl hown ⟨b, off, none⟩ l.length cap (l.map u8) rfl (by simp) H1.out ?c4 (by unfold maxLen; omega) (by omega) (by simp) ?_)
  case c4 => intro u hu; obtain ⟨x, _, rfl⟩ := List.mem_map.1 hu; rfl
  intro v' w1 hown1 hg hnil
  have hv' : v' ≠ .slice none 0 0 := fun e => hnil e
  obtain ⟨g, c, rfl⟩ := own_some hown1 hv'
  obtain ⟨o1, o2, o3, o4⟩ := own_row hown1
  have hbel : Below w.heap.size w w1 := ((Below.refl _ _).alloc (Nat.le_refl _) _).trans (grown_below hg (by simp) (fun g hg => by simp [Value.ownBlock] at hg; omega))
  clear hnil hv' hown1 hg
  go_wp2
  go_ret
  exact ⟨⟨_, rfl, g, c, by simp, o1, o2, o3, o4⟩, hbel⟩
end Go.Proofs.YthghhcnpbehaiaaGreat
