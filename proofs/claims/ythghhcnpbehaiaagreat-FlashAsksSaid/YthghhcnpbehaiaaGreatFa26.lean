/- The flash: Read, Write, Pages. -/
import Derived.Test.YthghhcnpbehaiaaGreatFa25

namespace Go.Proofs.YthghhcnpbehaiaaGreat
open Go.RowKit

theorem i64_ne {a : Int} (h : a ≠ 0) : (a != 0) = true ∧ (a == 0) = false := ⟨by simpa using h, by simpa using h⟩

set_option maxHeartbeats 2000000 in
set_option maxRecDepth 100000 in
theorem read33_bad {w : World} {X : FA} {F : Fl} (h : FlashAt w X F) (n : Int) (he : F.asked n ≠ 0) : Calls Tryz.prog 33 #[ptr X.f, i64 n] w fun e w' => e = .returned (.tuple #[.slice none 0 0, i64 (F.asked n)]) ∧ Below w.heap.size w w' := by
  have ha := asked69 h n
  obtain ⟨h1, h2⟩ := i64_ne he
  generalize F.asked n = a at *
  have HA := Lib.hid ha
  clear ha
  go_enter Tryz.func33, Tryz.ntmps33
  go_wp2_with fail
  refine HA.out.mono ?_
  rintro e w1 ⟨rfl, hb⟩
  go_wp2_with fail
  go_ret2
  exact ⟨rfl, by (repeat (first | exact Below.refl _ _ | assumption | (with_reducible refine Below.drew ?_) | (with_reducible refine below_drewN' ?_ _) | (with_reducible refine ext_alloc ?_ ?_; · (first | omega | (simp only [World.size_alloc, World.size_setCell, World.size_drew, World.heap_drewN]; omega) | (simp; omega))) | (with_reducible refine ext_setCell ?_ ?_; · (first | omega | (simp only [World.size_alloc, World.size_setCell, World.size_drew, World.heap_drewN]; omega) | (simp; omega))) | (refine ext_call (by assumption) ?_ ?_; · (first | omega | (simp only [World.size_alloc, World.size_setCell, World.size_drew, World.heap_drewN]; omega) | (simp; omega)))))⟩

set_option maxHeartbeats 2000000 in
set_option maxRecDepth 100000 in
theorem read33_none {w : World} {X : FA} {F : Fl} (h : FlashAt w X F) (n : Int) (he : F.asked n = 0) (hn : ok64 n) (hg : F.get n = none) : Calls Tryz.prog 33 #[ptr X.f, i64 n] w fun e w' => e = .returned (.tuple #[.slice none 0 0, i64 4]) ∧ Below w.heap.size w w' := by
  have ha := asked69 h n
  rw [he] at ha
  have hgt := fun wx (hb : Below w.heap.size w wx) => get82 (h.below hb) n hn
  rw [hg] at hgt
  have HA := Lib.hid ha
  have HG := Lib.hid hgt
  clear ha hgt hg he hn
  go_enter Tryz.func33, Tryz.ntmps33
  go_wp2_with fail
  refine HA.out.mono ?_
  rintro e w1 ⟨rfl, hb⟩
  go_wp2_with fail
  refine (HG.out _ hb).mono ?_
  rintro e w2 ⟨⟨v, rfl, -⟩, rfl⟩
  go_wp2_with fail
  go_ret2
  exact ⟨rfl, hb⟩

set_option maxHeartbeats 2000000 in
set_option maxRecDepth 100000 in
theorem read33_some {w : World} {X : FA} {F : Fl} (h : FlashAt w X F) (n : Int) (he : F.asked n = 0) (hn : ok64 n) (d : List Int) (hg : F.get n = some d) (hl : d.length ≤ 100000) : Calls Tryz.prog 33 #[ptr X.f, i64 n] w fun e w' => (∃ v, e = .returned (.tuple #[v, i64 0]) ∧ Fresh w.heap.size w' d v) ∧ Below w.heap.size w w' := by
  have ha := asked69 h n
  rw [he] at ha
  have hgt := fun wx (hb : Below w.heap.size w wx) => get82 (h.below hb) n hn
  rw [hg] at hgt
  have HA := Lib.hid ha
  have HG := Lib.hid hgt
  clear ha hgt hg he hn
  go_enter Tryz.func33, Tryz.ntmps33
  go_wp2_with fail
  refine HA.out.mono ?_
  rintro e w1 ⟨rfl, hb⟩
  have zb := hb.size
  go_wp2_with fail
  refine (HG.out _ hb).mono ?_
  rintro e w2 ⟨⟨v, rfl, hv⟩, rfl⟩
  obtain ⟨b, o, c, rfl, r1, r2, r3, r4⟩ := hv d rfl
  have hcl := clone70 d b o c r3 hl (List.length_pos_iff.2 r4)
  have HCL := Lib.hid hcl
  clear hcl hv r1 r2 r3 r4
  go_wp2_with fail
  refine HCL.out.mono ?_
  rintro e w3 ⟨⟨v, rfl, hf⟩, hb3⟩
  have HF := Lib.hid hf
  clear hf
  go_wp2_with fail
  go_ret2
  refine ⟨⟨_, rfl, ?_⟩, by (repeat (first | exact Below.refl _ _ | assumption | (with_reducible refine Below.drew ?_) | (with_reducible refine below_drewN' ?_ _) | (with_reducible refine ext_alloc ?_ ?_; · (first | omega | (simp only [World.size_alloc, World.size_setCell, World.size_drew, World.heap_drewN]; omega) | (simp; omega))) | (with_reducible refine ext_setCell ?_ ?_; · (first | omega | (simp only [World.size_alloc, World.size_setCell, World.size_drew, World.heap_drewN]; omega) | (simp; omega))) | (refine ext_call (by assumption) ?_ ?_; · (first | omega | (simp only [World.size_alloc, World.size_setCell, World.size_drew, World.heap_drewN]; omega) | (simp; omega)))))⟩
  obtain ⟨g, c2, e1, e2, e3⟩ := HF.out
  exact ⟨g, c2, e1, by omega, e3⟩

theorem chip38 {w : World} {X : FA} {F : Fl} (h : FlashAt w X F) : Calls Tryz.prog 38 #[ptr X.f] w fun e w' => e = .returned (ptr X.A.c) ∧ w = w' := by
  have c0 := h.row.cell0 0 rfl
  go_enter Tryz.func38, Tryz.ntmps38
  go_wp2
  go_ret
  exact ⟨rfl, rfl⟩

theorem logical23 {w : World} {X : FA} {F : Fl} (h : FlashAt w X F) : Calls Tryz.prog 23 #[ptr X.f] w fun e w' => e = .returned (i64 F.logical) ∧ Below w.heap.size w w' := by
  have c1 := h.row.cell0 1 rfl
  have c2 := h.row.cell0 2 rfl
  have c3 := h.row.cell0 3 rfl
  have c4 := h.row.cell0 4 rfl
  have c5 := h.row.cell0 5 rfl
  have hlg := fun wx => logical75 F.C.g wx
  have HLG := Lib.hid hlg
  clear hlg
  go_enter Tryz.func23, Tryz.ntmps23
  go_wp2_with fail
  refine (HLG.out _).mono ?_
  rintro e w1 ⟨rfl, hb⟩
  go_wp2_with fail
  go_ret
  exact ⟨rfl, hb⟩

theorem degraded24 {w : World} {X : FA} {F : Fl} (h : FlashAt w X F) : Calls Tryz.prog 24 #[ptr X.f] w fun e w' => e = .returned (.bool F.deg) ∧ w = w' := by
  have c13 := h.row.cell0 13 rfl
  go_enter Tryz.func24, Tryz.ntmps24
  go_wp2
  go_ret
  exact ⟨rfl, rfl⟩

theorem PendAt.put {M : Nat → Prop} {w w' : World} {b : Nat} {f : Int → Option (Option (List Int))} {l : List (Int × Value)} (hf : ∀ m, f m ≠ none → 0 ≤ m ∧ m < 1000) (hp : ∀ m, Opt2At M w (look l m) (f m)) (n : Int) (hn : 0 ≤ n ∧ n < 1000) {v : Value} {o : Option (List Int)}
    (hv : Opt2At M w (some v) (some o)) (hm : MapAt w' i64 b (upd l n v)) (ht : Turns (· = b) w w') (hb : M b) : PendAt M w' b (fput f n (some o)) true := by
  have hmm : ∀ k, k < w.heap.size → k = b → M k := fun k _ hk => by rw [hk]; exact hb
  have hlook : ∀ m, Opt2At M w' (look (upd l n v) m) (fput f n (some o) m) := fun m => by
    rw [look_upd]
    by_cases e : m = n
    · subst e; rw [fput_self, fput_self]; exact hv.turns ht hmm
    · rw [fput_ne _ e, fput_ne _ e]; exact (hp m).turns ht hmm
  have hkey : ∀ p ∈ upd l n v, 0 ≤ p.1 ∧ p.1 < 1000 := fun p hpm => by
    have h1 := (look_keys (upd l n v) p.1).1 (List.mem_map.2 ⟨p, hpm, rfl⟩)
    have h2 := hlook p.1
    by_cases e : p.1 = n
    · rw [e]; exact hn
    · rw [fput_ne _ e] at h2
      refine hf p.1 fun e0 => ?_
      rw [e0] at h2
      obtain ⟨u, hu⟩ := Option.isSome_iff_exists.1 h1
      rw [hu] at h2; simp only [Opt2At] at h2
  have hnd : ((upd l n v).map (·.1)).Nodup := by obtain ⟨_, _, _, _, _, _, h5⟩ := hm; exact h5
  refine ⟨_, hm, fun p hp => by have := hkey p hp; simp only [ok64]; omega, hlook, by simp [upd], ?_⟩
  have h1 : ((upd l n v).map (·.1)).length ≤ ((List.range 1000).map fun i : Nat => (i : Int)).length := nodup_len hnd fun k hk => by
    obtain ⟨p, hp, rfl⟩ := List.mem_map.1 hk
    have := hkey p hp
    exact List.mem_map.2 ⟨p.1.toNat, by simp; omega, by omega⟩
  simpa using h1

set_option maxHeartbeats 2000000 in
set_option maxRecDepth 100000 in
theorem write18 {w : World} {X : FA} {F : Fl} (h : FlashAt w X F) (n : Int) (he : F.asked n = 0) (hn : 0 ≤ n ∧ n < 1000) (hdg : F.deg = false) (hpd : ∀ m, F.pend m ≠ none → 0 ≤ m ∧ m < 1000) (d : List Int) (b off cap : Nat) (hr : Row w b off (d.map u8)) (hl : (d.length : Int) = F.C.g.Y) :
    Calls Tryz.prog 18 #[ptr X.f, i64 n, .slice (some ⟨b, off, none⟩) d.length cap] w fun e w' => e = .returned (i64 0) ∧ FlashAt w' X { F with pend := fput F.pend n (some (some d)), np := true } ∧ Turns X.mut w w' := by
  have hgo := (Geo.ok_iff _).1 h.chip.ok
  have y1 := hgo.y1
  have y2 := hgo.y2
  have hne : 0 < d.length := by omega
  have hd64 : d.length ≤ 64 := by omega
  have hdne : d ≠ [] := List.length_pos_iff.1 hne
  have ha := asked69 h n
  rw [he] at ha
  have HA := Lib.hid ha
  have HH := Lib.hid h
  have HPD := Lib.hid hpd
  have HR := Lib.hid hr
  have HDN := Lib.hid hdne
  have HDG := Lib.hid hdg
  have hlb : ((d.length : Int) != F.C.g.Y) = false := by simpa using hl
  clear ha h hpd hr hdne hdg he hgo hl
  go_enter Tryz.func18, Tryz.ntmps18
  go_wp2_with fail
  refine HA.out.mono ?_
  rintro e w1 ⟨rfl, hb⟩
  have zb := hb.size
  have hF1 := HH.out.below hb
  have c3 : w1.cell? ⟨X.f, 3, none⟩ = some (i64 F.C.g.Y) := hF1.row.cell0 3 rfl
  have c13 : w1.cell? ⟨X.f, 13, none⟩ = some (.bool false) := by have := hF1.row.cell0 13 rfl; rw [HDG.out] at this; exact this
  have c8 : w1.cell? ⟨X.f, 8, none⟩ = some (.map (some X.mp)) := hF1.row.cell0 8 rfl
  have HF1 := Lib.hid hF1
  have lf := hF1.f_lt
  clear hF1
  go_wp2_with fail
  apply wp_region_rel 7 (fun e w' => Below w1.heap.size w1 w' ∧ Hid (∀ u, e 6 = some u → Fresh w1.heap.size w' d u)) [[], [], [], [], [], [], []]
  · kernel_rfl
  · kernel_rfl
  · exact ⟨(Below.refl _ _).drew, fun u hu => by cases hu⟩
  · kernel_rfl
  simp only [List.take_succ_cons, List.take_zero, List.drop_succ_cons, List.drop_zero]
  iterate 3 (apply rel_val; (· rfl); (· (intro e' w' hD he hJ; skip; refine relv_of (by (go_simp; first | rfl | exact ⟨rfl, rfl⟩)) ⟨rfl, ?_⟩; exact ⟨hJ.1, fun u hu => hJ.2.out u (by rw [Env.put_ne _ (by decide)] at hu; exact hu)⟩)); simp only [Act.put, List.setIfInBounds_toArray, List.set_cons_zero, List.set_cons_succ])
  (apply rel_val (v := .map (some X.mp)); (· rfl); (· (intro e' w' hD he hJ; (obtain ⟨hc', hf'⟩ := bcell hJ.1); refine relv_of (u := .map (some X.mp)) (w := w') (by go_simp) ⟨rfl, ?_⟩; exact ⟨hJ.1, fun u hu => hJ.2.out u (by rw [Env.put_ne _ (by decide)] at hu; exact hu)⟩)); simp only [Act.put, List.setIfInBounds_toArray, List.set_cons_zero, List.set_cons_succ])
  iterate 2 (apply rel_val; (· rfl); (· (intro e' w' hD he hJ; skip; refine relv_of (by (go_simp; first | rfl | exact ⟨rfl, rfl⟩)) ⟨rfl, ?_⟩; exact ⟨hJ.1, fun u hu => hJ.2.out u (by rw [Env.put_ne _ (by decide)] at hu; exact hu)⟩)); simp only [Act.put, List.setIfInBounds_toArray, List.set_cons_zero, List.set_cons_succ])
  apply rel_yes (φ := fun _ u => ∃ g c : Nat, u = .slice (some ⟨g, 0, none⟩) d.length c)
  · rfl
  · exact ⟨_, 0, 0, rfl⟩
  · intro e' w' hD he' hJ
    refine rel_call (by (go_simp; first | rfl | exact ⟨⟨rfl, rfl⟩, rfl⟩)) ?_
    have hcl := clone70 d b off cap ((HR.out.below hb).below hJ.1) (by omega) hne
    refine hcl.mono ?_
    rintro e w2 ⟨⟨v, rfl, hf⟩, hb2⟩
    have hz := hJ.1.size
    obtain ⟨g, c, hv, f1, f2, f3, f4⟩ := hf
    refine ⟨v, rfl, ⟨g, c, hv⟩, ext_call hb2 hz hJ.1, fun u hu => ?_⟩
    rw [Env.put_self] at hu
    cases hu
    exact ⟨g, c, hv, by omega, f2, f3, f4⟩
  · rintro v ⟨g, c, rfl⟩
    simp only [Act.put, List.setIfInBounds_toArray, List.set_cons_zero, List.set_cons_succ]
    apply rel_nil
    rintro w2 ⟨hb2, hJ⟩
    have hfr := hJ.out _ (Env.put_self _ _ _)
    have z2 := hb2.size
    have hF2 := HF1.out.below hb2
    obtain ⟨l, hm, hok, hp, hnp, hll⟩ := hF2.pend
    have hv : BytesAt X.mut w2 (.slice (some ⟨g, 0, none⟩) d.length c) d := BytesAt.of_fresh hfr (fun k hk => HF1.out.mut_lt hk) HDN.out
    have HF2 := Lib.hid hF2
    have HM := Lib.hid hm
    have HP := Lib.hid hp
    have HO := Lib.hid hok
    have HV := Lib.hid hv
    clear hF2 hm hok hp hnp hll hv hfr hJ c3 c8 c13
    go_wp2_with (at_mapUpdate; refine stopT ?_)
    unfold Go.RowKit.Hid
    refine wpl_update rfl _ _ _ _ rfl rfl HM.out keysI HO.out Tryz.underlying98 n rfl (by simp only [ok64]; omega) (.slice (some ⟨g, 0, none⟩) d.length c) rfl ?_
    intro w3 hM3 hT3 hz3
    have hpn := PendAt.put (M := X.mut) (w := w2) (o := some d) HPD.out HP.out n hn (by exact HV.out) hM3 hT3 (.inr (.inr (.inr (.inr (.inl rfl)))))
    have hF3 := HF2.out.put_pend _ true hpn hT3
    have hTT : Turns X.mut w w3 := ((Turns.of_below hb).trans (Turns.of_below hb2)).trans (hT3.mono (fun k _ hk => by rw [hk]; exact .inr (.inr (.inr (.inr (.inl rfl))))))
    have HF3 := Lib.hid hF3
    have HTT := Lib.hid hTT
    clear hF3 hTT hpn hM3 hT3 hz3
    go_wp2_with fail
    go_ret
    exact ⟨rfl, HF3.out, HTT.out⟩

/-- The pages that there are. -/
def Fl.pagesTo (F : Fl) (k : Nat) : List Int := ((List.range k).filter fun i => (F.get (i : Nat)).isSome).map fun i => ((i : Nat) : Int)
theorem pagesTo_succ (F : Fl) (k : Nat) : F.pagesTo (k + 1) = F.pagesTo k ++ if (F.get k).isSome then [(k : Int)] else [] := by
  simp only [Fl.pagesTo, List.range_succ, List.filter_append, List.map_append]
  congr 1
  cases h : (F.get k).isSome <;> simp [h]
theorem pagesTo_len (F : Fl) (k : Nat) : (F.pagesTo k).length ≤ k := by
  have := List.length_filter_le (fun i => (F.get (i : Nat)).isSome) (List.range k)
  simp only [Fl.pagesTo, List.length_map]; simp at this; omega

set_option maxHeartbeats 2000000 in
set_option maxRecDepth 100000 in
theorem pages32 {w : World} {X : FA} {F : Fl} (h : FlashAt w X F) (N : Nat) (hN : (N : Int) = F.logical) (hN1 : N ≤ 1000) :
    Calls Tryz.prog 32 #[ptr X.f] w fun e w' => (∃ v, e = .returned v ∧ w'.ownsRow w.heap.size 3 1 v (F.pagesTo N).length ((F.pagesTo N).map i64)) ∧ Below w.heap.size w w' := by
  obtain ⟨i0, hi, hz0, hz1, hz2⟩ := info_parts info3
  have hlg := logical23 h
  rw [← hN] at hlg
  have HLG := Lib.hid hlg
  have HH := Lib.hid h
  clear hlg hN h
  go_enter Tryz.func32, Tryz.ntmps32
  go_wp2_with fail
  refine HLG.out.mono ?_
  rintro e w1 ⟨rfl, hb1⟩
  have z1 := hb1.size
  go_wp2_with fail
  go_loopw [3, 9] (fun r i wr => ∃ k : Nat, k ≤ N ∧ i = .int .i64 k ∧ Below w.heap.size w wr ∧ Hid (wr.ownsRow w.heap.size 3 1 r (F.pagesTo k).length ((F.pagesTo k).map i64))) (fun _ i _ => N - (RowKit.intOf i).toNat)
  case atStart => exact ⟨0, Nat.zero_le _, rfl, hb1, World.ownsRow_nil _ _ _ _⟩
  case round =>
    obtain ⟨k, hk, rfl, hbr, HOWN⟩ := hrel
    have k0 : (0 : Int) ≤ (k : Int) := by omega
    have zr := hbr.size
    have hkw : IntKind.i64.wrap ((k : Int) + 1) = ((k + 1 : Nat) : Int) := by rw [IntWalk.i64_in _ (by omega)]; omega
    by_cases hlt : k < N
    · have hgt := get82 (HH.out.below hbr) k (by simp only [ok64]; omega)
      have hps := pagesTo_succ F k
      have hpl := pagesTo_len F k
      generalize F.pagesTo k = pk at *
      cases hgk : (F.get k).isSome
      · rw [hgk] at hgt hps
        have HG := Lib.hid hgt
        have HP := Lib.hid hps
        clear hgt hps hgk
        go_wp2_with fail
        refine HG.out.mono ?_
        rintro e w2 ⟨⟨v, rfl, -⟩, rfl⟩
        go_wp2_with fail
        refine ⟨⟨k + 1, by omega, ?_, hbr, ?_⟩, by simp [RowKit.intOf]; omega⟩
        · first | rfl | (congr 1; done) | (congr 1; omega)
        · rw [HP.out]; simpa using HOWN
      · rw [hgk] at hgt hps
        have HG := Lib.hid hgt
        have HP := Lib.hid hps
        clear hgt hps hgk
        go_wp2_with fail
        refine HG.out.mono ?_
        rintro e w2 ⟨⟨v, rfl, -⟩, rfl⟩
        go_wp2_with (at_builtin; refine stopT ?_)
        unfold Go.RowKit.Hid
        refine wpList_append_own _ rfl _ _ 25 rfl w.heap.size 3 i0 (.int .i64 0) 1 8 Tryz.underlying25 hi hz0 hz1 hz2 rfl (by decide) _ _ _ rfl (HOWN.out.alloc _) ⟨wr.heap.size, 0, none⟩ 1 1 [i64 k] rfl rfl ?c3 ?c4 (by unfold maxLen; omega) (by omega) (by simp; omega) ?_
        case c3 =>
          intro j u hj
          cases j with
          | zero => cases hj; simp [Addr.add]
          | succ j => simp at hj
        case c4 => intro u hu; simp at hu; subst hu; rfl
        intro v2 w3 hown2 hg2 hnil
        clear hnil
        have hb2 : Below w.heap.size w w3 := (hbr.alloc (by omega) _).trans (grown_below hg2 (by simp; omega) (fun g hg' => (HOWN.out.lt g hg').1))
        have HO2 := Lib.hid hown2
        clear hown2 hg2
        go_wp2_with fail
        refine ⟨⟨k + 1, by omega, ?_, hb2, ?_⟩, by simp [RowKit.intOf]; omega⟩
        · first | rfl | (congr 1; done) | (congr 1; omega)
        · have := HO2.out
          rw [HP.out]
          refine Lib.hid ?_
          simpa using this
    · have e : k = N := by omega
      subst e
      go_wp2_with fail
      go_ret
      exact ⟨⟨_, rfl, HOWN.out⟩, hbr⟩
end Go.Proofs.YthghhcnpbehaiaaGreat
