/- A region whose order is drawn: operations ahead that may give a value that is not known, and may change the world, as long as a relation holds at each moment; and a chain behind. -/
import Derived.Test.YthghhcnpbehaiaaGreatFa03

namespace Go.Proofs.YthghhcnpbehaiaaGreat
open Go.RowKit

abbrev Env := Nat → Option Value
def Env.put (e : Env) (j : Nat) (u : Value) : Env := fun k => if k = j then some u else e k
theorem Env.put_self (e : Env) (j : Nat) (u : Value) : (e.put j u) j = some u := by simp [Env.put]
theorem Env.put_ne (e : Env) {j k : Nat} (h : k ≠ j) (u : Value) : (e.put j u) k = e k := by simp [Env.put, h]
theorem Env.put_comm (e : Env) {i j : Nat} (h : i ≠ j) (u v : Value) : (e.put i u).put j v = (e.put j v).put i u := by
  funext k
  simp only [Env.put]
  by_cases h1 : k = j
  · subst h1; simp [Ne.symm h]
  · by_cases h2 : k = i
    · subst h2; simp [h]
    · simp [h1, h2]

/-- What is known of a value, by those that it is made of. -/
abbrev Rel := (Nat → Value) → Value → Prop
def Rel.eqv (v : Value) : Rel := fun _ u => u = v
def sees (D : List Nat) (e : Env) : Nat → Value := fun k => if k ∈ D then (e k).getD undef else undef
theorem sees_put {D : List Nat} {e : Env} {j : Nat} {u : Value} (h : j ∉ D) : sees D (e.put j u) = sees D e := by
  funext k
  simp only [sees, Env.put]
  split
  · rename_i hk
    rw [if_neg (by rintro rfl; exact h hk)]
  · rfl

section
variable {P : Program} {ops : Array Oper} {md : Region.Mode} {J : Env → World → Prop}

def givesRel (P : Program) (R : Value → World → Prop) : Result Next → Prop
  | .ok (.value u) w' => R u w'
  | .ok .skip w' => R undef w'
  | .ok (.enter f args) w' => Calls P f args w' fun e w'' => ∃ u, e = .returned u ∧ R u w''
  | _ => False

def KE (P : Program) (ops : Array Oper) (J : Env → World → Prop) (j : Nat) (o : Oper) (D : List Nat) (φ : Rel) (e : Env) (a : Act) : Prop :=
  (∃ v, φ (sees D e) v) ∧
  ((Region.wanted o (yielded ops a.tmps) = true ∧ ∀ e' w, (∀ i ∈ D, e' i = e i) → e' j = none → J e' w → givesRel P (fun u w' => φ (sees D e) u ∧ J (e'.put j u) w') ((execOp a.eval o).run P w)) ∨
  (Region.wanted o (yielded ops a.tmps) = false ∧ φ (sees D e) undef ∧ ∀ e' w, (∀ i ∈ D, e' i = e i) → e' j = none → J e' w → J (e'.put j undef) w))

def wpKeepE (P : Program) (ops : Array Oper) (J : Env → World → Prop) (Q : Env → Act → Prop) : Nat → List Oper → List (List Nat) → List Rel → Env → Act → Prop
  | _, [], _, _, e, a => Q e a
  | k, o :: rest, D :: Ds, φ :: φs, e, a => KE P ops J k o D φ e a ∧ ∀ v, φ (sees D e) v → wpKeepE P ops J Q (k + 1) rest Ds φs (e.put k v) (a.put o.dst v)
  | _, _ :: _, _, _, _, _ => False

def ke (P : Program) (ops : Array Oper) (J : Env → World → Prop) (Ds : List (List Nat)) (φs : List Rel) (i : Nat) (K : Env → Act → Prop) (e : Env) (a : Act) : Prop :=
  ∃ o D φ, ops[i]? = some o ∧ Ds[i]? = some D ∧ φs[i]? = some φ ∧ KE P ops J i o D φ e a ∧ ∀ v, φ (sees D e) v → K (e.put i v) (a.put o.dst v)

variable {Ds : List (List Nat)} {φs : List Rel}

theorem ke_mono {i : Nat} {a : Act} {e : Env} {K K' : Env → Act → Prop} (h : ∀ v a, K (e.put i v) a → K' (e.put i v) a) (hh : ke P ops J Ds φs i K e a) : ke P ops J Ds φs i K' e a := by
  obtain ⟨o, D, φ, h1, h2, h3, h4, h5⟩ := hh
  exact ⟨o, D, φ, h1, h2, h3, h4, fun v hv => h _ _ (h5 v hv)⟩

theorem KE.of_same {j : Nat} {o : Oper} {D : List Nat} {φ : Rel} {e e2 : Env} {a a' : Act} (hy : KE P ops J j o D φ e a) (hs : ∀ i ∈ D, e2 i = e i) (he : execOp a'.eval o = execOp a.eval o)
    (hw : Region.wanted o (yielded ops a'.tmps) = Region.wanted o (yielded ops a.tmps)) : KE P ops J j o D φ e2 a' := by
  have h1 : sees D e2 = sees D e := by
    funext k
    simp only [sees]
    split
    · rename_i hk; rw [hs k hk]
    · rfl
  unfold KE at *
  rw [he, hw, h1]
  refine ⟨hy.1, ?_⟩
  rcases hy.2 with ⟨hw, h⟩ | ⟨hw, hv, h⟩
  · exact .inl ⟨hw, fun e' w hd => h e' w (fun i hi => (hd i hi).trans (hs i hi))⟩
  · exact .inr ⟨hw, hv, fun e' w hd => h e' w (fun i hi => (hd i hi).trans (hs i hi))⟩

theorem wpOp_of_ke {Q' : Exit → Act → World → Prop} {i : Nat} {a : Act} {e : Env} {w : World} {K : Env → Act → Prop} {K' : Act → World → Prop}
    (h : ∀ v a w, K (e.put i v) a → J (e.put i v) w → K' a w) (hi : e i = none) (hw : J e w) (hh : ke P ops J Ds φs i K e a) :
    wpOp P ops Q' i K' a w := by
  obtain ⟨o, D, φ, ho, h2, h3, ⟨_, hy⟩, hK⟩ := hh
  unfold wpOp
  simp only [ho]
  split
  · rename_i hwt
    rcases hy with ⟨_, hy⟩ | ⟨hn, _⟩
    · refine .inl ?_
      have hy := hy e w (fun _ _ => rfl) hi hw
      unfold Oper.wp
      generalize (execOp a.eval o).run P w = r at *
      cases r with
      | ok n w' =>
        cases n <;> simp only [givesRel] at hy <;> simp only [Oper.upon]
        case value u => exact h _ _ _ (hK _ hy.1) hy.2
        case skip => exact h _ _ _ (hK _ hy.1) hy.2
        case enter f args => exact hy.mono fun x w'' ⟨u, he, hj⟩ => by subst he; exact h _ _ _ (hK _ hj.1) hj.2
      | halt x w' => simp only [givesRel] at hy
    · rw [hn] at hwt; cases hwt
  · rename_i hwt
    rcases hy with ⟨hn, _⟩ | ⟨_, hv, hj⟩
    · exact absurd hn hwt
    · exact h _ _ _ (hK _ hv) (hj _ _ (fun _ _ => rfl) hi hw)

theorem ke_put {i j : Nat} {oi oj : Oper} {D D' : List Nat} {φ : Rel} (hij : i ≠ j) (hj : ops[j]? = some oj) (hDj : Ds[j]? = some D') (hap : oi.apart ops oj = true)
    (hsi : ∀ cs b, oi.op ≠ .select cs b) (hsj : ∀ cs b, oj.op ≠ .select cs b) (hiD : i ∉ D') (hjD : j ∉ D) {K : Env → Act → Prop} {e : Env} {a : Act}
    (hy : KE P ops J i oi D φ e a) (h : ∀ v, φ (sees D e) v → ke P ops J Ds φs j K (e.put i v) (a.put oi.dst v)) :
    ke P ops J Ds φs j (fun e' a' => KE P ops J i oi D φ e' a' ∧ ∀ v, φ (sees D e') v → K (e'.put i v) (a'.put oi.dst v)) e a := by
  obtain ⟨h1, h2, h3⟩ := Oper.apart_spec hap
  obtain ⟨v0, hv0⟩ := hy.1
  obtain ⟨oj', Dj, ψ, e1, e2, e3, hu, hK⟩ := h v0 hv0
  rw [hj] at e1; cases e1
  rw [hDj] at e2; cases e2
  refine ⟨oj, D', ψ, hj, hDj, e3, hu.of_same (fun k hk => (Env.put_ne e (by rintro rfl; exact hiD hk) v0).symm) (execOp_put oj hsj a oi.dst v0 h1).symm (wanted_put oj a oi.dst v0 h1).symm, fun u hu' => ⟨?_, ?_⟩⟩
  · exact hy.of_same (fun k hk => Env.put_ne e (by rintro rfl; exact hjD hk) u) (execOp_put oi hsi a oj.dst u h3) (wanted_put oi a oj.dst u h3)
  · intro v hv
    rw [sees_put hjD] at hv
    obtain ⟨oj', Dj, ψ', e1, e2, e3', _, hK⟩ := h v hv
    rw [hj] at e1; cases e1
    rw [hDj] at e2; cases e2
    rw [e3] at e3'; cases e3'
    have := hK u (by rw [sees_put hiD]; exact hu')
    rw [Env.put_comm e hij, act_put_comm a (d := oi.dst) (e := oj.dst) h2] at this
    exact this

def keAnyL (P : Program) (md : Region.Mode) (ops : Array Oper) (J : Env → World → Prop) (Ds : List (List Nat)) (φs : List Rel) (n : Nat) (L : Array Bool → Env → Act → Prop) : Nat → Array Bool → Env → Act → Prop
  | 0, listed, e, a => L listed e a
  | f + 1, listed, e, a =>
    Region.ready md ops listed ≠ [] ∧ ∀ i ∈ Region.ready md ops listed, i < n ∧ ke P ops J Ds φs i (keAnyL P md ops J Ds φs n L f (listed.setIfInBounds i true)) e a

/-- What is not listed has no value yet. -/
def EL (listed : Array Bool) (e : Env) : Prop := ∀ k, listed.getD k true = false → e k = none
theorem EL.put {listed : Array Bool} {e : Env} (h : EL listed e) (j : Nat) (v : Value) : EL (listed.setIfInBounds j true) (e.put j v) := fun k hk => by
  by_cases hjk : j = k
  · subst hjk
    exfalso
    by_cases hs : j < listed.size
    · simp [Array.getD, hs] at hk
    · simp [Array.getD, hs] at hk
  · rw [getD_set_ne true hjk] at hk
    rw [Env.put_ne _ (Ne.symm hjk)]
    exact h k hk

theorem wpAny_of_ke {n g : Nat} {L : Array Bool → Env → Act → Prop} {Q' : Exit → Act → World → Prop} (hL : ∀ listed e a w, L listed e a → J e w → wpAny P md ops Q' g listed a w) :
    ∀ (f : Nat) (listed : Array Bool) (e : Env) (a : Act) (w : World), EL listed e → J e w → keAnyL P md ops J Ds φs n L f listed e a → wpAny P md ops Q' (f + g) listed a w
  | 0, listed, e, a, w, _, hw, h => by rw [Nat.zero_add]; exact hL _ _ _ _ h hw
  | f + 1, listed, e, a, w, he, hw, h => by
    rw [show f + 1 + g = (f + g) + 1 by omega]
    exact ⟨fun h0 => absurd h0 h.1, fun i hi => wpOp_of_ke (fun v a' w' h' hw' => wpAny_of_ke hL f _ _ a' w' (he.put i v) hw' h') (he i (mem_ready.1 hi).1) hw (h.2 i hi).2⟩

theorem keAnyL_first {n i : Nat} {oi : Oper} {D : List Nat} {φ : Rel} {L : Array Bool → Env → Act → Prop} (hi : ops[i]? = some oi) (hDi : Ds[i]? = some D) (hφi : φs[i]? = some φ)
    (hsel : ∀ (j : Nat) (o : Oper) cs b, ops[j]? = some o → o.op ≠ .select cs b)
    (hDD : ∀ (i j : Nat) (oi oj : Oper) (D : List Nat), ops[i]? = some oi → ops[j]? = some oj → Ds[j]? = some D → i ∈ D → oi.apart ops oj = false ∧ oj.apart ops oi = false)
    (hs : Region.sinkB md ops n = true) (hc : Region.chainB md ops n = true) (hn : n < ops.size) (hin : i < n)
    (hdone : ∀ listed e a, L listed e a → ∀ j ∈ Region.ready md ops listed, n ≤ j) :
    ∀ (f : Nat) (listed : Array Bool) (e : Env) (a : Act), HeadInv md ops n listed →
      (∀ j oj, ops[j]? = some oj → j ≠ i → listed.getD j true = false → (∀ e ∈ oj.after, Region.binds md e = true → e.on ≠ i) → oi.apart ops oj = true) →
      i ∈ Region.ready md ops listed → KE P ops J i oi D φ e a →
      (∀ v, φ (sees D e) v → keAnyL P md ops J Ds φs n L f (listed.setIfInBounds i true) (e.put i v) (a.put oi.dst v)) → keAnyL P md ops J Ds φs n L (f + 1) listed e a := by
  have here : ∀ {K : Env → Act → Prop} {e : Env} {a : Act}, KE P ops J i oi D φ e a → (∀ v, φ (sees D e) v → K (e.put i v) (a.put oi.dst v)) → ke P ops J Ds φs i K e a := fun hy h => ⟨oi, D, φ, hi, hDi, hφi, hy, h⟩
  intro f
  induction f with
  | zero =>
    intro listed e a inv _ hr hy H
    have hun := (mem_ready.1 hr).1
    refine ⟨fun h => (by rw [h] at hr; cases hr), fun j hj => ?_⟩
    have hjn : j < n := by
      rcases Nat.lt_or_ge j n with h | h
      · exact h
      · exact absurd hj (tail_waits hs hc hn inv _ i rfl hin hun j h)
    refine ⟨hjn, ?_⟩
    by_cases hji : j = i
    · subst hji; exact here hy H
    · obtain ⟨v0, hv0⟩ := hy.1
      have := hdone _ _ _ (H v0 hv0) j (ready_mono hj hji)
      omega
  | succ f ih =>
    intro listed e a inv hfree hr hy H
    have hun := (mem_ready.1 hr).1
    refine ⟨fun h => (by rw [h] at hr; cases hr), fun j hj => ?_⟩
    have hjn : j < n := by
      rcases Nat.lt_or_ge j n with h | h
      · exact h
      · exact absurd hj (tail_waits hs hc hn inv _ i rfl hin hun j h)
    refine ⟨hjn, ?_⟩
    by_cases hji : j = i
    · subst hji; exact here hy H
    · have h1 := fun v hv => ((H v hv).2 j (ready_mono hj hji)).2
      obtain ⟨hjun, oj, hoj, hall⟩ := mem_ready.1 hj
      have hnot : ∀ e ∈ oj.after, Region.binds md e = true → e.on ≠ i := fun e he hb heq => by
        have h1 := hall e he hb
        rw [heq, getD_both hun] at h1
        cases h1
      obtain ⟨v0, hv0⟩ := hy.1
      obtain ⟨oj', Dj, _, e1, hDj, _⟩ := h1 v0 hv0
      have hap := hfree j oj hoj hji hjun hnot
      have hiD : i ∉ Dj := fun hmem => by have := (hDD i j oi oj Dj hi hoj hDj hmem).1; rw [hap] at this; cases this
      have hjD : j ∉ D := fun hmem => by have := (hDD j i oj oi D hoj hi hDi hmem).2; rw [hap] at this; cases this
      have h2 := ke_put (Ne.symm hji) hoj hDj hap (fun cs b => hsel i oi cs b hi) (fun cs b => hsel j oj cs b hoj) hiD hjD hy h1
      have hfree' : ∀ k ok, ops[k]? = some ok → k ≠ i → (listed.setIfInBounds j true).getD k true = false →
          (∀ e ∈ ok.after, Region.binds md e = true → e.on ≠ i) → oi.apart ops ok = true := fun k ok hk hki hun hno => by
        refine hfree k ok hk hki ?_ hno
        by_cases hjk : j = k
        · subst hjk; exact hjun
        · rw [getD_set_ne true hjk] at hun; exact hun
      refine ke_mono (fun u a' h3 => ih (listed.setIfInBounds j true) _ a' (inv.set hj hjn) hfree' (ready_mono hr (Ne.symm hji)) h3.1 ?_) h2
      rw [Array.setIfInBounds_comm _ _ hji]
      exact h3.2

theorem keAnyL_lex {n g : Nat} {Lq : Env → Act → Prop} (hsel : Region.noSelect ops = true)
    (hDD : ∀ (i j : Nat) (oi oj : Oper) (D : List Nat), ops[i]? = some oi → ops[j]? = some oj → Ds[j]? = some D → i ∈ D → oi.apart ops oj = false ∧ oj.apart ops oi = false)
    (hs : Region.sinkB md ops n = true) (hc : Region.chainB md ops n = true) (hn : n < ops.size) :
    ∀ (l : List Oper) (k : Nat) (ds : List (List Nat)) (fs : List Rel) (listed : Array Bool) (e : Env) (a : Act), (∀ j, j < l.length → l[j]? = ops[k + j]?) → (∀ j, j < l.length → ds[j]? = Ds[k + j]?) → (∀ j, j < l.length → fs[j]? = φs[k + j]?) → k + l.length = n → HeadInv md ops n listed →
    Region.lexHead md ops g l.length k listed = true → wpKeepE P ops J Lq k l ds fs e a →
    keAnyL P md ops J Ds φs n (fun listed' e' a' => Region.seqB md ops g n listed' = true ∧ Lq e' a') l.length listed e a
  | [], k, ds, fs, listed, e, a, _, _, _, hk, _, hB, h => by
    have : k = n := by simpa using hk
    subst this
    exact ⟨by simpa [Region.lexHead] using hB, by simpa [wpKeepE] using h⟩
  | o :: l, k, [], fs, listed, e, a, _, _, _, _, _, _, h => by simp [wpKeepE] at h
  | o :: l, k, D :: ds, [], listed, e, a, _, _, _, _, _, _, h => by simp [wpKeepE] at h
  | o :: l, k, D :: ds, φ :: fs, listed, e, a, hl, hd, hf', hk, inv, hB, h => by
    have h0 : ops[k]? = some o := by simpa using (hl 0 (by simp)).symm
    have hD0 : Ds[k]? = some D := by simpa using (hd 0 (by simp)).symm
    have hφ0 : φs[k]? = some φ := by simpa using (hf' 0 (by simp)).symm
    simp only [List.length_cons, Region.lexHead, Bool.and_eq_true] at hB
    obtain ⟨⟨hr, hf⟩, hB'⟩ := hB
    have hkn : k < n := by simp only [List.length_cons] at hk; omega
    have hr' : k ∈ Region.ready md ops listed := by simpa using hr
    obtain ⟨hy, hK⟩ := h
    exact keAnyL_first h0 hD0 hφ0 (Region.noSelect_spec hsel) hDD hs hc hn hkn (fun listed' e' a' hL => seqB_ready hL.1) l.length listed e a inv (Region.free_spec h0 hf) hr' hy
      (fun v hv => keAnyL_lex hsel hDD hs hc hn l (k + 1) ds fs _ _ _ (fun j hj => by have := hl (j + 1) (by simp; omega); simpa [Nat.add_assoc, Nat.add_comm 1 j] using this)
        (fun j hj => by have := hd (j + 1) (by simp; omega); simpa [Nat.add_assoc, Nat.add_comm 1 j] using this)
        (fun j hj => by have := hf' (j + 1) (by simp; omega); simpa [Nat.add_assoc, Nat.add_comm 1 j] using this)
        (by simp only [List.length_cons] at hk; omega) (inv.set hr' hkn) hB' (hK v hv))

def depB (ops : Array Oper) (Ds : List (List Nat)) : Bool :=
  (List.range ops.size).all fun j => match Ds[j]?, ops[j]? with
    | some D, some oj => D.all fun i => match ops[i]? with
      | some oi => !(oi.apart ops oj) && !(oj.apart ops oi)
      | none => true
    | _, _ => true

theorem depB_spec (h : depB ops Ds = true) (i j : Nat) (oi oj : Oper) (D : List Nat) (hi : ops[i]? = some oi) (hj : ops[j]? = some oj) (hD : Ds[j]? = some D) (hm : i ∈ D) :
    oi.apart ops oj = false ∧ oj.apart ops oi = false := by
  simp only [depB, List.all_eq_true, List.mem_range] at h
  have h1 := h j (Array.getElem?_eq_some_iff.1 hj).1
  simp only [hj, hD, List.all_eq_true] at h1
  have h2 := h1 i hm
  simp only [hi, Bool.and_eq_true, Bool.not_eq_true'] at h2
  exact h2

/-- The law: J holds when the region begins, and with each value that is made; the n operations ahead are walked one by one, as the text has them; then the rest, in a world of which J holds. -/
theorem wp_region_rel {id : Nat} {Q : Exit → Act → World → Prop} {a : Act} {w : World} {l : List Oper} (n : Nat) (J : Env → World → Prop) (Ds : List (List Nat)) (φs : List Rel) (hm : P.follows .mixedOrders = true) (hB : Region.lexTailB .any l.toArray n = true)
    (hJ : J (fun _ => none) w.drew)
    (hd : depB l.toArray Ds = true)
    (h : wpKeepE P l.toArray J (fun e a' => ∀ w', J e w' → wpList P l.toArray Q (l.drop n) a' w') 0 (l.take n) Ds φs (fun _ => none) a) : (Code.region id l.toArray true).wp P Q a w := by
  simp only [Region.lexTailB, Bool.and_eq_true, decide_eq_true_eq] at hB
  obtain ⟨⟨⟨⟨hsel, hn⟩, hs⟩, hc⟩, hlex⟩ := hB
  have hn' : n < l.length := by simpa using hn
  have htl : (l.take n).length = n := by simp; omega
  have inv0 : HeadInv .any l.toArray n (Array.replicate l.toArray.size false) :=
    ⟨by simp, fun j oj _ hl => (by rw [getD_replicate_false] at hl; cases hl), fun t _ ht => getD_in (by simpa using ht) (getD_replicate_false _ _)⟩
  have H := keAnyL_lex (md := .any) (g := l.toArray.size - n) (Ds := Ds) (φs := φs) hsel (depB_spec hd) hs hc hn (l.take n) 0 Ds φs _ (fun _ => none) a (fun j hj => by
    have hj' : j < n := by rw [htl] at hj; exact hj
    simp [hj']) (fun j hj => by simp) (fun j hj => by simp) (by simpa using htl) inv0 (by rw [htl]; exact hlex) h
  refine wp_region_any hm ?_
  have hdl : (l.drop n).length = l.toArray.size - n := by simp
  have H2 := wpAny_of_ke (Q' := Q) (Ds := Ds) (φs := φs) (g := l.toArray.size - n) (fun listed e a' w' hL hw' => by
    have := wpAny_of_seq (md := .any) (Q' := Q) (P := P) (ops := l.toArray) (l.drop n) n listed a' w' (fun j => by simp) (by rw [hdl]; exact hL.1) (hL.2 w' hw')
    rwa [hdl] at this) (l.take n).length _ (fun _ => none) a _ (fun _ _ => rfl) hJ H
  rw [htl] at H2
  have e0 : l.toArray.size = l.length := by simp
  have e : n + (l.toArray.size - n) = l.toArray.size := by omega
  rwa [e] at H2

variable {Q : Env → Act → Prop} {o : Oper} {rest : List Oper} {a : Act} {e : Env} {k : Nat} {D : List Nat}
theorem rel_yes {φ : Rel} (hw : Region.wanted o (yielded ops a.tmps) = true) (hne : ∃ v, φ (sees D e) v)
    (h : ∀ e' w, (∀ i ∈ D, e' i = e i) → e' k = none → J e' w → givesRel P (fun u w' => φ (sees D e) u ∧ J (e'.put k u) w') ((execOp a.eval o).run P w))
    (h2 : ∀ v, φ (sees D e) v → wpKeepE P ops J Q (k + 1) rest Ds φs (e.put k v) (a.put o.dst v)) : wpKeepE P ops J Q k (o :: rest) (D :: Ds) (φ :: φs) e a :=
  ⟨⟨hne, .inl ⟨hw, h⟩⟩, h2⟩
/-- An operation whose value is known. -/
theorem rel_val {v : Value} (hw : Region.wanted o (yielded ops a.tmps) = true)
    (h : ∀ e' w, (∀ i ∈ D, e' i = e i) → e' k = none → J e' w → givesRel P (fun u w' => u = v ∧ J (e'.put k v) w') ((execOp a.eval o).run P w))
    (h2 : wpKeepE P ops J Q (k + 1) rest Ds φs (e.put k v) (a.put o.dst v)) : wpKeepE P ops J Q k (o :: rest) (D :: Ds) (Rel.eqv v :: φs) e a := by
  refine rel_yes hw ⟨v, rfl⟩ (fun e' w h1 h2 h3 => ?_) (fun u hu => ?_)
  · have := h e' w h1 h2 h3
    generalize (execOp a.eval o).run P w = r at *
    cases r with
    | ok n w' =>
      cases n <;> simp only [givesRel] at this ⊢
      case value u => obtain ⟨rfl, hj⟩ := this; exact ⟨rfl, hj⟩
      case skip => obtain ⟨e1, hj⟩ := this; exact ⟨e1, by rw [e1]; exact hj⟩
      case enter f args => exact this.mono fun x w'' ⟨u, he, hu, hj⟩ => ⟨u, he, hu, by rw [hu]; exact hj⟩
    | halt x w' => simp only [givesRel] at this
  · rw [show u = v from hu]; exact h2
theorem rel_nil {Q : Env → Act → Prop} (h : Q e a) : wpKeepE P ops J Q k [] [] [] e a := by simpa [wpKeepE] using h
theorem relv_of {r : Result Next} {R : Value → World → Prop} {u : Value} {w : World} (hr : r = .ok (.value u) w) (h : R u w) : givesRel P R r := by rw [hr]; exact h
theorem rel_call {r : Result Next} {f : FuncId} {args : Array Value} {R : Value → World → Prop} {w : World} (hr : r = .ok (.enter f args) w) (h : Calls P f args w fun e w'' => ∃ u, e = .returned u ∧ R u w'') : givesRel P R r := by rw [hr]; exact h
end
end Go.Proofs.YthghhcnpbehaiaaGreat
