/- A page that there is not, or data of another length, is refused, and changes nothing; without power all is off: for every geometry, page and bytes the law returns true, and each argument reads as it did. No condition. -/
import Derived.Test.YthghhcnpbehaiaaGreatRows
import Derived.Test.YthghhcnpbehaiaaGreatFa42
import Derived.Test.YthghhcnpbehaiaaGreatFa43
import Derived.Test.YthghhcnpbehaiaaGreatFa46

namespace Go.Proofs.YthghhcnpbehaiaaGreat
open Go.ChangeShapes Go.WideShapes Go.ChangeAt Go.RowKit
set_option linter.unusedVariables false

theorem asks10 (g : Geo) (n : Int) (hn : ok64 n) (d : List Int) (m : Nat) (hd : d.length = m) (A : Option Addr) (cap : Nat) (w : World) (hv : SlAt w (.slice A m cap) m (d.map u8)) :
    Calls Tryz.prog 10 #[.agg #[i64 g.B, i64 g.P, i64 g.Y, i64 g.S, i64 g.T], i64 n, .slice A m cap] w fun e w' => e = .returned (.bool true) ∧ Below w.heap.size w w' := by
  by_cases hm : 200 < m
  · exact asks10_long g n d m hm A cap w
  · have hm' : m ≤ 200 := by omega
    cases hg : g.okB
    · exact asks10_no g hg n d m hm' A cap w
    · by_cases h0 : n < 0
      · exact asks10_neg g hg n hn d m hd hm' A cap w hv h0
      · by_cases h1 : n < g.logical
        · by_cases hl : (m : Int) = g.Y
          · exact asks10_in g hg n hn d m hd hm' A cap w hv (by omega) h1 hl
          · exact asks10_len g hg n hn d m hd hm' A cap w hv (by omega) h1 hl
        · exact asks10_big g hg n hn d m hd hm' A cap w hv (by omega) h1

set_option maxRecDepth 100000 in
theorem fasks_lifted (os : Os) (started : os.Started) (H : Type) (enc : TypeId × Value → H) :
    ReturnsInHanded {} Tryz.checked os 10 .any (Rows.flashAsksSpec.pre6 enc Tryz.prog Tryz.f10 Rows.flashAsksRow.domain false) (Rows.flashAsksSpec.post enc Tryz.prog Tryz.f10 false true false false) := by
  refine returnsInHanded_of_change (C := Tryz.checked) law_own started (by kernel_rfl) Tryz.func10
    (ChangeSpec.witness6 (enc := enc) (C := Tryz.checked) false ⟨#[], #[.agg #[.int .i64 0, .int .i64 0, .int .i64 0, .int .i64 0, .int .i64 0], .int .i64 0, .slice none 0 0], []⟩ 8 (by kernel_rfl) (by kernel_rfl) (by kernel_rfl) (by kernel_rfl)) ?_
  intro W base args ds gs before hval0 hW hcnd _
  have hval : ∀ (j : Nat) t v, Tryz.f10.params[j]? = some t → args[j]? = some v → Value.okWide Tryz.prog W .any base t v := hval0
  have hW' := hW
  have hltW := hW.lt
  obtain ⟨p, q, hA0, hV, rfl, hfz, hnd⟩ := hW
  have hA : DataW.TrodAll enc Tryz.prog W 0 (fun _ => true) true Tryz.f10.params.toList args.toList ds p := hA0
  rw [Tryz.params10] at hA hval
  obtain ⟨v0, vs0, d0, ds0, p0, q0, hargs, rfl, rfl, h0, r0⟩ := trodAll_cons hA
  obtain ⟨v1, vs1, d1, ds1, p1, q1, rfl, rfl, rfl, h1, r1⟩ := trodAll_cons r0
  obtain ⟨v2, vs2, d2, ds2, p2, q2, rfl, rfl, rfl, h2, r2⟩ := trodAll_cons r1
  obtain ⟨rfl, rfl, rfl⟩ := trodAll_nil r2
  obtain rfl : args = #[v0, v1, v2] := by cases args; simp_all
  obtain ⟨rfl, rfl⟩ := trodVars_none hV
  simp only [List.append_nil] at hW' hltW hfz
  obtain ⟨g, rfl⟩ := open_geo (hval 0 23 v0 rfl rfl) h0
  obtain ⟨n, rfl, -, -, wn⟩ := open_int Tryz.underlying3 (hval 1 3 v1 rfl rfl) h1
  obtain ⟨A, m, cap, l, rfl, hl, hsl⟩ := open_bytes (hval 2 37 v2 rfl rfl) h2 (fun b off hb => hfz b off (by simp [hb]))
  clear hA0 hval0 hA r0 r1 r2
  refine (asks10 g n (wf_ok64 wn) l m hl A cap W hsl).mono fun e W' ⟨he, hb⟩ => ?_
  subst he
  refine ⟨_, rfl, _, _, _, [], p0 ++ (p1 ++ p2), [], hW', (trodAll_cons_mk (shut_bool Tryz.underlying4 _) trodAll_mk0), ?_, rfl, hb.frame _, fun h => by cases h⟩
  have t0 := Below.trod law_laid (by kernel_rfl) (of_decide_eq_true (by kernel_rfl)) h0 hb (fun x hx => hltW x (by simp [hx]))
  have t1 := Below.trod law_laid (by kernel_rfl) (of_decide_eq_true (by kernel_rfl)) h1 hb (fun x hx => hltW x (by simp [hx]))
  have t2 := Below.trod law_laid (by kernel_rfl) (of_decide_eq_true (by kernel_rfl)) h2 hb (fun x hx => hltW x (by simp [hx]))
  have := trodAll_cons_mk t0 (trodAll_cons_mk t1 (trodAll_cons_mk t2 trodAll_mk0))
  simp only [List.append_nil] at this
  exact this

theorem fasks_over : Rows.flashAsksRow.holds Tryz.pinned (OpenSpec.ofChange Rows.flashAsksSpec) :=
  OpenClaim.holds_of_wide 10 Tryz.f10 rfl rfl rfl rfl rfl rfl rfl ⟨rfl, rfl, rfl, rfl, rfl⟩ rfl rfl rfl rfl rfl (by kernel_rfl) Tryz.func10 (by kernel_rfl)
    (of_decide_eq_true (by kernel_rfl)) (by unfold Func.isWrapper; first | (rw [if_pos (by decide +kernel)]; kernel_rfl) | (rw [if_neg (by decide +kernel)]; exact ⟨rfl, rfl⟩))
    (fun os started H enc _ => fasks_lifted os started H enc)

theorem flashAsks_holds : Rows.FlashAsksSaid :=
  fasks_over
#print axioms flashAsks_holds
end Go.Proofs.YthghhcnpbehaiaaGreat
