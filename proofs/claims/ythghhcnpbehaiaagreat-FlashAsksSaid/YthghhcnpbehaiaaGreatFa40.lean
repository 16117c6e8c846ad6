/- The flash: Mount, walked. -/
import Derived.Test.YthghhcnpbehaiaaGreatFa25

namespace Go.Proofs.YthghhcnpbehaiaaGreat
open Go.RowKit

set_option maxHeartbeats 2000000 in
set_option maxRecDepth 100000 in
theorem mount15 {w : World} {A : CA} {C : Chip} (h : ChipAt w A C) (hfA : ∀ k o, A.fA = some ⟨k, o, none⟩ → k < w.heap.size) (pg : Plc → Option (Tag × List Int)) (hpg : Cont C pg) (hoff : C.off = false) (ht : C.turn = 0) (ho : C.ops < 4000000000000000000) (hl : (C.lost : Int) ≤ C.g.S) (N : Nat) (hN : (N : Int) = C.g.B * C.g.P) :
    Calls Tryz.prog 15 #[ptr A.c] w fun e w' => ∃ X : FA, e = .returned (.tuple #[ptr X.f, i64 0]) ∧ X.A = A ∧ (∀ k, X.mut k → A.foot k ∨ w.heap.size ≤ k) ∧ FlashAt w' X (mounted C pg N) ∧ Turns A.foot w w' := by
  have hN1 : N ≤ 160 := by have := geo0 h; omega
  have hN0 : 0 < N := by have hgo := (Geo.ok_iff _).1 h.ok; have := hgo.b1; have := hgo.p1; have : 0 < C.g.B * C.g.P := Int.mul_pos (by omega) (by omega); omega
  have hon := fun wx (hb : Below w.heap.size w wx) => on59 (h.below hb)
  rw [hoff] at hon
  have hgeo := fun wx (hb : Below w.heap.size w wx) => geo60 (h.below hb)
  have HON := Lib.hid hon
  have HGEO := Lib.hid hgeo
  have HC := Lib.hid h
  have HPG := Lib.hid hpg
  have HNN := Lib.hid hN
  have HOFF := Lib.hid hoff
  have HT := Lib.hid ht
  have hmm := @run_makeMap Tryz.prog
  clear hon hgeo hpg h hN hoff ht
  go_enter Tryz.func15, Tryz.ntmps15
  go_wp2_with fail
  refine (HON.out _ (Below.refl _ _)).mono ?_
  rintro e w1 ⟨rfl, rfl⟩
  go_wp2_with fail
  refine (HGEO.out _ (Below.refl _ _)).mono ?_
  rintro e w1 ⟨rfl, hb1⟩
  have hI := mount_init (HC.out.below hb1) (fun k o e => by have := hfA k o e; have := hb1.size; omega) pg
  have z1 := hb1.size
  have HI := Lib.hid hI
  clear hI
  generalize hX : (⟨A, w1.heap.size + 4, w1.heap.size, w1.heap.size + 1, w1.heap.size + 2, w1.heap.size + 3⟩ : FA) = X at HI
  have HX := Lib.hid hX
  clear hX
  go_wp2_with fail
  go_loopw [5, 6] (fun t5 t6 wr => ∃ k q : Nat, k ≤ N ∧ t5 = ptr q ∧ w1.heap.size + 5 ≤ q ∧ q < wr.heap.size ∧ Row wr q 0 [i64 (if k < N then (C.g.place k).b else 0), i64 (if k < N then (C.g.place k).p else 0)] ∧ t6 = .bool (decide (k < N)) ∧ Hid (FlashAt wr X (fl0 C pg k)) ∧ Hid (Turns A.foot w wr)) (fun t5 t6 wr => mM C.g N t5 t6 wr)
  case atStart =>
    refine ⟨0, w1.heap.size + 5, Nat.zero_le _, by simp, Nat.le_refl _, by simp, ?_, by simp [hN0], HI.out.below ((Below.refl _ _).alloc (Nat.le_refl _) _), ?_⟩
    · rw [if_pos hN0, if_pos hN0]
      have := Row.new (((((w1.alloc (.map #[] 0)).alloc (.map #[] 0)).alloc (.map #[] 0)).alloc (.map #[] 0)).alloc (.cells #[ptr A.c, i64 C.g.B, i64 C.g.P, i64 C.g.Y, i64 C.g.S, i64 C.g.T, .map (some w1.heap.size), .map (some (w1.heap.size + 1)), .map (some (w1.heap.size + 2)), .map (some (w1.heap.size + 3)), i64 0, i64 0, i64 0, .bool false] 101)) #[i64 0, i64 0] 75
      simp only [World.size_alloc] at this
      simpa [Geo.place] using this
    · exact Turns.of_below (by (repeat (first | exact Below.refl _ _ | assumption | (with_reducible refine Below.drew ?_) | (with_reducible refine below_drewN' ?_ _) | (with_reducible refine ext_alloc ?_ ?_; · (first | omega | (simp only [World.size_alloc, World.size_setCell, World.size_drew, World.heap_drewN]; omega) | (simp; omega))) | (with_reducible refine ext_setCell ?_ ?_; · (first | omega | (simp only [World.size_alloc, World.size_setCell, World.size_drew, World.heap_drewN]; omega) | (simp; omega))) | (refine ext_call (by assumption) ?_ ?_; · (first | omega | (simp only [World.size_alloc, World.size_setCell, World.size_drew, World.heap_drewN]; omega) | (simp; omega))))))
  case round =>
    obtain ⟨k, q, hk, rfl, hq1, hq2, hrow, rfl, HF, HTu⟩ := hrel
    by_cases hlt : k < N
    · rw [if_pos hlt, if_pos hlt] at hrow
      have hd : decide (k < N) = true := by simpa using hlt
      rw [hd]
      have hme : mM C.g N (ptr q) (.bool true) wr = N + 1 - k := by
        have hkB : (k : Int) < C.g.B * C.g.P := by have := HNN.out; omega
        rw [mM_at hrow, (place_num HC.out.ok hkB).2]; simp
      have HME := Lib.hid hme
      clear hme
      have c0 := hrow.cell0 0 rfl
      have c1 := hrow.cell0 1 rfl
      go_upto_block 2 with fail
      go_cut [9] (fun s9 wx => Hid (FlashAt wx X (fl0 C pg (k + 1))) ∧ Hid (Turns A.foot w wx) ∧ Below 0 wr wx ∧ Hid (Row wx q 0 [i64 (C.g.place k).b, i64 (C.g.place k).p]))
      case first =>
        have HF0 := HF.out
        have hfr : w1.heap.size + 4 = X.f := by rw [← HX.out]
        have hXA : X.A = A := by rw [← HX.out]
        have hchip : ChipAt wr A (C.opsUp k) := by have := HF0.chip; rw [hXA] at this; exact this
        have c6 : wr.cell? ⟨w1.heap.size + 4, 6, none⟩ = some (.map (some X.mf)) := by rw [hfr]; exact HF0.row.cell0 6 rfl
        have c10 : wr.cell? ⟨w1.heap.size + 4, 10, none⟩ = some (i64 (seqOf (fdOf C pg k))) := by rw [hfr]; exact HF0.row.cell0 10 rfl
        have c11 : wr.cell? ⟨w1.heap.size + 4, 11, none⟩ = some (i64 (epochOf (fdOf C pg k))) := by rw [hfr]; exact HF0.row.cell0 11 rfl
        have hkB : (k : Int) < C.g.B * C.g.P := by have := HNN.out; omega
        obtain ⟨hisB, hnum⟩ := place_num HC.out.ok hkB
        have hbd := num_bounds HC.out.ok hisB
        obtain ⟨blk, hblk⟩ : ∃ b, C.at (C.g.place k).b = some b := by
          have h1 : 0 ≤ (C.g.place k).b := hbd.2.2.2.1
          have h2 : (C.g.place k).b < C.g.B := hbd.2.2.2.2.1
          have h3 := HC.out.bn
          refine ⟨C.bk[(C.g.place k).b.toNat]'(by omega), ?_⟩
          rw [Chip.at, if_pos h1]; exact List.getElem?_eq_getElem _
        have hops : (C.opsUp k).ops < 4611686018427387903 := by
          have := cnt_le (fun i => !C.badB (C.g.place i).b) k
          simp only [Chip.opsUp]; omega
        have HCH := Lib.hid hchip
        have HFR := Lib.hid hfr
        have HXA := Lib.hid hXA
        clear hbd hnum hfr hXA hchip HF0 hkB
        cases hbad : C.badB (C.g.place k).b
        · have hpgk := HPG.out (C.g.place k) blk hisB hblk hbad
          have HBAD := Lib.hid hbad
          clear hbad
          go_wp2_with fail
          refine (bad62 HCH.out (C.g.place k).b).mono ?_
          rw [show (C.opsUp k).badB (C.g.place k).b = false from HBAD.out]
          rintro e w2 ⟨rfl, hb2⟩
          have z2 := hb2.size
          replace c0 := keepc hb2 c0
          replace c1 := keepc hb2 c1
          cases hp : pg (C.g.place k) with
          | none =>
            rw [hp] at hpgk
            have hld := load63e (HCH.out.below hb2) (C.g.place k) blk hisB hblk (by exact HOFF.out) (by exact HT.out) hops hpgk
            have HLD := Lib.hid hld
            have HP := Lib.hid hp
            clear hld hp hpgk
            go_wp2_with fail
            refine HLD.out.mono ?_
            rintro e w3 ⟨rfl, hC3, ht3⟩
            have z3 := ht3.size
            have hF3 := (HF.out.below hb2).chipped (C' := { C.opsUp k with ops := (C.opsUp k).ops + 1 }) (by rw [HXA.out]; exact hC3) rfl (by rw [HXA.out]; exact ht3)
            have HF3 : Hid (FlashAt w3 X (fl0 C pg (k + 1))) := by rw [fl0_none HBAD.out HP.out]; exact hF3
            have hq3 : Row w3 q 0 [i64 (C.g.place k).b, i64 (C.g.place k).p] := (hrow.below hb2).turns ht3 (fun hf => by have := HC.out.flt hf; omega)
            have HQ3 := Lib.hid hq3
            have HT3 := Lib.hid (((HTu.out.trans (Turns.of_below hb2)).trans ht3))
            have hB0 : Below 0 wr w3 := ⟨ht3.os.trans hb2.os, ht3.tape.trans hb2.tape, ht3.output.trans hb2.output, by omega, fun _ h => absurd h (by omega)⟩
            clear hF3 hq3 hC3 ht3
            go_wp2_with fail
            go_meet
            exact ⟨HF3.out.below (by (repeat (first | exact Below.refl _ _ | assumption | (with_reducible refine Below.drew ?_) | (with_reducible refine below_drewN' ?_ _) | (with_reducible refine ext_alloc ?_ ?_; · (first | omega | (simp only [World.size_alloc, World.size_setCell, World.size_drew, World.heap_drewN]; omega) | (simp; omega))) | (with_reducible refine ext_setCell ?_ ?_; · (first | omega | (simp only [World.size_alloc, World.size_setCell, World.size_drew, World.heap_drewN]; omega) | (simp; omega))) | (refine ext_call (by assumption) ?_ ?_; · (first | omega | (simp only [World.size_alloc, World.size_setCell, World.size_drew, World.heap_drewN]; omega) | (simp; omega)))))), HT3.out.trans (Turns.of_below (by (repeat (first | exact Below.refl _ _ | assumption | (with_reducible refine Below.drew ?_) | (with_reducible refine below_drewN' ?_ _) | (with_reducible refine ext_alloc ?_ ?_; · (first | omega | (simp only [World.size_alloc, World.size_setCell, World.size_drew, World.heap_drewN]; omega) | (simp; omega))) | (with_reducible refine ext_setCell ?_ ?_; · (first | omega | (simp only [World.size_alloc, World.size_setCell, World.size_drew, World.heap_drewN]; omega) | (simp; omega))) | (refine ext_call (by assumption) ?_ ?_; · (first | omega | (simp only [World.size_alloc, World.size_setCell, World.size_drew, World.heap_drewN]; omega) | (simp; omega))))))), hB0.trans ((by (repeat (first | exact Below.refl _ _ | assumption | (with_reducible refine Below.drew ?_) | (with_reducible refine below_drewN' ?_ _) | (with_reducible refine ext_alloc ?_ ?_; · (first | omega | (simp only [World.size_alloc, World.size_setCell, World.size_drew, World.heap_drewN]; omega) | (simp; omega))) | (with_reducible refine ext_setCell ?_ ?_; · (first | omega | (simp only [World.size_alloc, World.size_setCell, World.size_drew, World.heap_drewN]; omega) | (simp; omega))) | (refine ext_call (by assumption) ?_ ?_; · (first | omega | (simp only [World.size_alloc, World.size_setCell, World.size_drew, World.heap_drewN]; omega) | (simp; omega))))) : Below w3.heap.size w3 _).mono (by omega)), HQ3.out.below (by (repeat (first | exact Below.refl _ _ | assumption | (with_reducible refine Below.drew ?_) | (with_reducible refine below_drewN' ?_ _) | (with_reducible refine ext_alloc ?_ ?_; · (first | omega | (simp only [World.size_alloc, World.size_setCell, World.size_drew, World.heap_drewN]; omega) | (simp; omega))) | (with_reducible refine ext_setCell ?_ ?_; · (first | omega | (simp only [World.size_alloc, World.size_setCell, World.size_drew, World.heap_drewN]; omega) | (simp; omega))) | (refine ext_call (by assumption) ?_ ?_; · (first | omega | (simp only [World.size_alloc, World.size_setCell, World.size_drew, World.heap_drewN]; omega) | (simp; omega))))))⟩
          | some td =>
            obtain ⟨t, d⟩ := td
            rw [hp] at hpgk
            obtain ⟨htk, hdl, hdb, hraw⟩ := hpgk
            have hld := load63 (HCH.out.below hb2) (C.g.place k) blk hisB hblk (by exact HOFF.out) (by exact HT.out) hops t htk d hdl hdb hraw
            have hdne : d ≠ [] := by
              intro e0; subst e0
              have hgo := (Geo.ok_iff _).1 HC.out.ok
              have := hgo.y1; simp at hdl; omega
            have HLD := Lib.hid hld
            have HP := Lib.hid hp
            have HDNE := Lib.hid hdne
            clear hld hp htk hdl hdb hraw hdne
            go_wp2_with fail
            refine HLD.out.mono ?_
            rintro e w3 ⟨⟨v, rfl, hfr3⟩, hC3, ht3⟩
            have z3 := ht3.size
            have hF3 := (HF.out.below hb2).chipped (C' := { C.opsUp k with ops := (C.opsUp k).ops + 1 }) (by rw [HXA.out]; exact hC3) rfl (by rw [HXA.out]; exact ht3)
            have hmutlt : ∀ b, X.mut b → b < w2.heap.size := fun b hb => by have := HF.out.mut_lt hb; omega
            have hv3 : BytesAt X.mut w3 v d := BytesAt.of_fresh hfr3 hmutlt HDNE.out
            obtain ⟨vb, vo, vc, rfl, hv31, hv32, hv33, hv34⟩ := hv3
            have hv3 : BytesAt X.mut w3 (.slice (some ⟨vb, vo, none⟩) d.length vc) d := ⟨vb, vo, vc, rfl, hv31, hv32, hv33, hv34⟩
            have HV3 := Lib.hid hv3
            have HF3 := Lib.hid hF3
            have hq3 : Row w3 q 0 [i64 (C.g.place k).b, i64 (C.g.place k).p] := (hrow.below hb2).turns ht3 (fun hf => by have := HC.out.flt hf; omega)
            have HQ3 := Lib.hid hq3
            have HT3 := Lib.hid (((HTu.out.trans (Turns.of_below hb2)).trans ht3))
            have hB0 : Below 0 wr w3 := ⟨ht3.os.trans hb2.os, ht3.tape.trans hb2.tape, ht3.output.trans hb2.output, by omega, fun _ h => absurd h (by omega)⟩
            have HB0 := Lib.hid hB0
            clear hF3 hq3 hC3 ht3 hv3 hfr3 hv31 hv32 hv33 hv34 c6 c10 c11 c0 c1 hB0
            go_wp2_with fail
            have b3 : Below w3.heap.size w3 (w3.alloc (.cells #[i64 t.kind, i64 t.page, i64 t.seq, i64 t.epoch] 105)) := (Below.refl _ _).alloc (Nat.le_refl _) _
            have hF4 := HF3.out.below b3
            have hV4 := HV3.out.below b3
            have hQ4 := HQ3.out.below b3
            have hT4 : Row (w3.alloc (.cells #[i64 t.kind, i64 t.page, i64 t.seq, i64 t.epoch] 105)) w3.heap.size 0 [i64 t.kind, i64 t.page, i64 t.seq, i64 t.epoch] := Row.new _ _ _
            have hTu4 : Turns A.foot w (w3.alloc (.cells #[i64 t.kind, i64 t.page, i64 t.seq, i64 t.epoch] 105)) := HT3.out.alloc _
            have hB4 : Below 0 wr (w3.alloc (.cells #[i64 t.kind, i64 t.page, i64 t.seq, i64 t.epoch] 105)) := HB0.out.alloc (by omega) _
            have hz4 : (w3.alloc (.cells #[i64 t.kind, i64 t.page, i64 t.seq, i64 t.epoch] 105)).heap.size = w3.heap.size + 1 := by simp
            generalize w3.alloc (.cells #[i64 t.kind, i64 t.page, i64 t.seq, i64 t.epoch] 105) = w4 at *
            have hz4' : w3.heap.size < w4.heap.size := by omega
            clear hz4 b3
            have c6 : w4.cell? ⟨w1.heap.size + 4, 6, none⟩ = some (.map (some X.mf)) := by rw [HFR.out]; exact hF4.row.cell0 6 rfl
            have c0 := hQ4.cell0 0 rfl
            have c1 := hQ4.cell0 1 rfl
            have s0 := hT4.cell0 0 rfl
            have s1 := hT4.cell0 1 rfl
            have s2 := hT4.cell0 2 rfl
            have s3 := hT4.cell0 3 rfl
            have HF4 := Lib.hid hF4
            have HV4 := Lib.hid hV4
            have HQ4 := Lib.hid hQ4
            have HT4 := Lib.hid hT4
            have HTu4 := Lib.hid hTu4
            have HB4 := Lib.hid hB4
            have l1 : w1.heap.size + 4 < w4.heap.size := by omega
            have l2 : q < w4.heap.size := by omega
            clear hF4 hV4 hQ4 hT4 hTu4 hB4 HF3 HV3 HQ3 HT3 HB0
            refine wp_region_keep 8 (fun wJ => Below (w4).heap.size (w4) wJ) (by kernel_rfl) (by kernel_rfl) (by (repeat (first | exact Below.refl _ _ | assumption | (with_reducible refine Below.drew ?_) | (with_reducible refine below_drewN' ?_ _) | (with_reducible refine ext_alloc ?_ ?_; · (first | omega | (simp only [World.size_alloc, World.size_setCell, World.size_drew, World.heap_drewN]; omega) | (simp; omega))) | (with_reducible refine ext_setCell ?_ ?_; · (first | omega | (simp only [World.size_alloc, World.size_setCell, World.size_drew, World.heap_drewN]; omega) | (simp; omega))) | (refine ext_call (by assumption) ?_ ?_; · (first | omega | (simp only [World.size_alloc, World.size_setCell, World.size_drew, World.heap_drewN]; omega) | (simp; omega)))))) ?_
            simp only [List.take_succ_cons, List.take_zero, List.drop_succ_cons, List.drop_zero]
            iterate 8 (apply keep_yes; (· rfl); (· (intro w' hJ; (try obtain ⟨hc', hf'⟩ := bcell hJ); refine gives_of (by (go_simp; rfl)) rfl hJ)); simp only [Act.put, List.setIfInBounds_toArray, List.set_cons_zero, List.set_cons_succ])
            refine keep_nil ?_
            intro w5 hJ5
            have z5 := hJ5.size
            have hF5 := HF4.out.below hJ5
            obtain ⟨sl, hm5, hs5⟩ := hF5.found
            have hok5 : ∀ p ∈ (fdOf C pg k).map (entry sl), ok64 p.1.b ∧ ok64 p.1.p := by
              intro p hp'
              obtain ⟨x, hx, rfl⟩ := List.mem_map.1 hp'
              obtain ⟨i, hi, hxa, _⟩ := fdOf_mem hx
              have hb := num_bounds HC.out.ok (place_num HC.out.ok (k := i) (by have := HNN.out; omega)).1
              have hgo := (Geo.ok_iff _).1 HC.out.ok
              have b2 := hgo.b2; have p2 := hgo.p2
              simp only [entry, hxa, ok64]
              omega
            have hokk : ok64 (C.g.place k).b ∧ ok64 (C.g.place k).p := by
              have hb := num_bounds HC.out.ok hisB
              have hgo := (Geo.ok_iff _).1 HC.out.ok
              have b2 := hgo.b2; have p2 := hgo.p2
              simp only [ok64]
              omega
            have hnew : ∀ y ∈ fdOf C pg k, y.at_ ≠ C.g.place k := by
              intro y hy e0
              obtain ⟨i, hi, hxa, _⟩ := fdOf_mem hy
              have h1 := (place_num HC.out.ok (k := i) (by have := HNN.out; omega)).2
              have h2 := (place_num HC.out.ok (k := k) (by have := HNN.out; omega)).2
              rw [← hxa, e0, h2] at h1
              omega
            have HM5 := Lib.hid hm5
            have HS5 := Lib.hid hs5
            have HO5 := Lib.hid hok5
            have HOK := Lib.hid hokk
            have HNEW := Lib.hid hnew
            have HF5 := Lib.hid hF5
            clear hm5 hs5 hok5 hokk hnew hF5 c6 c0 c1 s0 s1 s2 s3
            go_wp2_with (at_mapUpdate; refine stopT ?_)
            unfold Go.RowKit.Hid
            refine wpl_update rfl _ _ _ _ rfl rfl HM5.out keysP HO5.out Tryz.underlying97 (C.g.place k) rfl HOK.out (pageV t (.slice (some ⟨vb, vo, none⟩) d.length vc)) rfl ?_
            intro w6 hM6 hT6 hz6
            have hF6 := HF5.out.put_found HS5.out ⟨C.g.place k, t, d⟩ HNEW.out _ (HV4.out.below hJ5) hM6 hT6
            have hmf : X.mf = w1.heap.size := by rw [← HX.out]
            have hQ6 : Row w6 q 0 [i64 (C.g.place k).b, i64 (C.g.place k).p] := (HQ4.out.below hJ5).turns hT6 (by omega)
            have hT8 : Row w6 w3.heap.size 0 [i64 t.kind, i64 t.page, i64 t.seq, i64 t.epoch] := (HT4.out.below hJ5).turns hT6 (by omega)
            have hTu6 : Turns A.foot w w6 := (HTu4.out.trans (Turns.of_below hJ5)).trans_new hT6 (fun i hi => .inr (by omega))
            have hB6 : Below 0 wr w6 := (HB4.out.trans (hJ5.mono (by omega))).trans (hT6.belowN (fun b hb => Nat.zero_le _) (Nat.zero_le _))
            obtain ⟨sq, hsq⟩ : ∃ sq, sq = seqOf (fdOf C pg k) := ⟨_, rfl⟩
            obtain ⟨ep, hep⟩ : ∃ ep, ep = epochOf (fdOf C pg k) := ⟨_, rfl⟩
            have hR6 : Row w6 (w1.heap.size + 4) 0 (Fl.cells X { fl0 C pg k with C := { C.opsUp k with ops := (C.opsUp k).ops + 1 }, fd := fdOf C pg k ++ [⟨C.g.place k, t, d⟩], seq := sq, epoch := ep }) := by rw [HFR.out, hsq, hep]; exact hF6.row
            have HF6 := Lib.hid hF6
            have HQ6 := Lib.hid hQ6
            have HT8 := Lib.hid hT8
            have HTu6 := Lib.hid hTu6
            have HB6 := Lib.hid hB6
            have HR6 := Lib.hid hR6
            have HSQ := Lib.hid hsq
            have HEP := Lib.hid hep
            clear hF6 hQ6 hT8 hTu6 hB6 hM6 HF5 HS5 HM5 HF4 HV4 HQ4 HT4 HTu4 HB4 hR6 hsq hep hT6
            have nf8 : w3.heap.size ≠ w1.heap.size + 4 := by omega
            have l8 : w3.heap.size < w6.heap.size := by omega
            have lf6 : w1.heap.size + 4 < w6.heap.size := by omega
            clear hz6 hmf
            by_cases h1 : sq ≤ t.seq <;> by_cases h2 : ep ≤ t.epoch
            all_goals
              obtain ⟨ms, hms⟩ : ∃ ms, ms = max sq t.seq := ⟨_, rfl⟩
              obtain ⟨me, hme⟩ : ∃ me, me = max ep t.epoch := ⟨_, rfl⟩
              have x1 : ms = (if sq ≤ t.seq then t.seq else sq) := by rw [hms]; split <;> omega
              have x2 : me = (if ep ≤ t.epoch then t.epoch else ep) := by rw [hme]; split <;> omega
              simp only [h1, h2, if_true, if_false] at x1 x2
              have HMS := Lib.hid hms
              have HME2 := Lib.hid hme
              have X1 := Lib.hid x1
              have X2 := Lib.hid x2
              clear hms hme x1 x2
              go_wp2_with fail
              obtain ⟨W, hW⟩ : ∃ W, w6.drew = W := ⟨_, rfl⟩
              have b6 : Below w6.heap.size w6 W := by rw [← hW]; exact (Below.refl _ _).drew
              have HW := Lib.hid hW
              have HRW := Lib.hid (HR6.out.below b6)
              have HTW := Lib.hid (HT8.out.below b6)
              clear hW
              apply wp_region_rel 19 (fun e w' => Chain c18 e ∧ Hid (P18 W (w1.heap.size + 4) ms (e 18) w')) [[], [], [], [], [], [], [], [], [5], [], [], [], [], [], [], [], [], [], [8]]
              · kernel_rfl
              · kernel_rfl
              · exact ⟨fun p hp h => absurd rfl h, HW.out⟩
              · kernel_rfl
              simp only [List.take_succ_cons, List.take_zero, List.drop_succ_cons, List.drop_zero]
              iterate 5 (apply rel_val; (· rfl); (· (intro e' w' hD he hJ; skip; refine relv_of (by (go_simp; first | rfl | exact ⟨rfl, rfl⟩)) ⟨rfl, ?_⟩; exact ⟨hJ.1.put _ _ (fun p hp hk => by (simp only [List.mem_cons, List.not_mem_nil, or_false] at hp); rcases hp with rfl | rfl <;> (first | (exfalso; revert hk; decide) | (rw [hD _ (by decide)]; simp [Env.put]))), by rw [Env.put_ne _ (by decide)]; exact hJ.2⟩)); simp only [Act.put, List.setIfInBounds_toArray, List.set_cons_zero, List.set_cons_succ])
              (apply rel_val (v := i64 sq); (· rfl); (· (intro e' w' hD he hJ; (have n9 := c18_none hJ.1 he; have h9 := hJ.2.out; rw [n9] at h9; have h9 : w' = W := h9; subst h9; have g1 : w'.cell? ⟨w1.heap.size + 4, 10, none⟩ = some (i64 sq) := HRW.out.cell0 10 rfl); refine relv_of (u := i64 sq) (w := w') (by go_simp) ⟨rfl, ?_⟩; exact ⟨hJ.1.put _ _ (fun p hp hk => by (simp only [List.mem_cons, List.not_mem_nil, or_false] at hp); rcases hp with rfl | rfl <;> (first | (exfalso; revert hk; decide) | (rw [hD _ (by decide)]; simp [Env.put]))), by rw [Env.put_ne _ (by decide)]; exact hJ.2⟩)); simp only [Act.put, List.setIfInBounds_toArray, List.set_cons_zero, List.set_cons_succ])
              (apply rel_val; (· rfl); (· (intro e' w' hD he hJ; skip; refine relv_of (by (go_simp; first | rfl | exact ⟨rfl, rfl⟩)) ⟨rfl, ?_⟩; exact ⟨hJ.1.put _ _ (fun p hp hk => by (simp only [List.mem_cons, List.not_mem_nil, or_false] at hp); rcases hp with rfl | rfl <;> (first | (exfalso; revert hk; decide) | (rw [hD _ (by decide)]; simp [Env.put]))), by rw [Env.put_ne _ (by decide)]; exact hJ.2⟩)); simp only [Act.put, List.setIfInBounds_toArray, List.set_cons_zero, List.set_cons_succ])
              (apply rel_val (v := i64 t.seq); (· rfl); (· (intro e' w' hD he hJ; (have r := hJ.2.out.row nf8 HTW.out; have g1 : w'.cell? ⟨w3.heap.size, 2, none⟩ = some (i64 t.seq) := r.cell0 2 rfl); refine relv_of (u := i64 t.seq) (w := w') (by go_simp) ⟨rfl, ?_⟩; exact ⟨hJ.1.put _ _ (fun p hp hk => by (simp only [List.mem_cons, List.not_mem_nil, or_false] at hp); rcases hp with rfl | rfl <;> (first | (exfalso; revert hk; decide) | (rw [hD _ (by decide)]; simp [Env.put]))), by rw [Env.put_ne _ (by decide)]; exact hJ.2⟩)); simp only [Act.put, List.setIfInBounds_toArray, List.set_cons_zero, List.set_cons_succ])
              (apply rel_val (v := i64 ms); (· rfl); (· (intro e' w' hD he hJ; (have x1 := X1.out); refine relv_of (u := i64 ms) (w := w') (by go_simp; omega) ⟨rfl, ?_⟩; exact ⟨hJ.1.put _ _ (fun p hp hk => by (simp only [List.mem_cons, List.not_mem_nil, or_false] at hp); rcases hp with rfl | rfl <;> (first | (exfalso; revert hk; decide) | (rw [hD _ (by decide)]; simp [Env.put]))), by rw [Env.put_ne _ (by decide)]; exact hJ.2⟩)); simp only [Act.put, List.setIfInBounds_toArray, List.set_cons_zero, List.set_cons_succ])
              iterate 3 (apply rel_val; (· rfl); (· (intro e' w' hD he hJ; skip; refine relv_of (by (go_simp; first | rfl | exact ⟨rfl, rfl⟩)) ⟨rfl, ?_⟩; exact ⟨hJ.1.put _ _ (fun p hp hk => by (simp only [List.mem_cons, List.not_mem_nil, or_false] at hp); rcases hp with rfl | rfl <;> (first | (exfalso; revert hk; decide) | (rw [hD _ (by decide)]; simp [Env.put]))), by rw [Env.put_ne _ (by decide)]; exact hJ.2⟩)); simp only [Act.put, List.setIfInBounds_toArray, List.set_cons_zero, List.set_cons_succ])
              (apply rel_val (v := i64 ep); (· rfl); (· (intro e' w' hD he hJ; (have g1 : w'.cell? ⟨w1.heap.size + 4, 11, none⟩ = some (i64 ep) := hJ.2.out.cell (by decide) (HRW.out.cell0 11 rfl)); refine relv_of (u := i64 ep) (w := w') (by go_simp) ⟨rfl, ?_⟩; exact ⟨hJ.1.put _ _ (fun p hp hk => by (simp only [List.mem_cons, List.not_mem_nil, or_false] at hp); rcases hp with rfl | rfl <;> (first | (exfalso; revert hk; decide) | (rw [hD _ (by decide)]; simp [Env.put]))), by rw [Env.put_ne _ (by decide)]; exact hJ.2⟩)); simp only [Act.put, List.setIfInBounds_toArray, List.set_cons_zero, List.set_cons_succ])
              (apply rel_val; (· rfl); (· (intro e' w' hD he hJ; skip; refine relv_of (by (go_simp; first | rfl | exact ⟨rfl, rfl⟩)) ⟨rfl, ?_⟩; exact ⟨hJ.1.put _ _ (fun p hp hk => by (simp only [List.mem_cons, List.not_mem_nil, or_false] at hp); rcases hp with rfl | rfl <;> (first | (exfalso; revert hk; decide) | (rw [hD _ (by decide)]; simp [Env.put]))), by rw [Env.put_ne _ (by decide)]; exact hJ.2⟩)); simp only [Act.put, List.setIfInBounds_toArray, List.set_cons_zero, List.set_cons_succ])
              (apply rel_val (v := i64 t.epoch); (· rfl); (· (intro e' w' hD he hJ; (have r := hJ.2.out.row nf8 HTW.out; have g1 : w'.cell? ⟨w3.heap.size, 3, none⟩ = some (i64 t.epoch) := r.cell0 3 rfl); refine relv_of (u := i64 t.epoch) (w := w') (by go_simp) ⟨rfl, ?_⟩; exact ⟨hJ.1.put _ _ (fun p hp hk => by (simp only [List.mem_cons, List.not_mem_nil, or_false] at hp); rcases hp with rfl | rfl <;> (first | (exfalso; revert hk; decide) | (rw [hD _ (by decide)]; simp [Env.put]))), by rw [Env.put_ne _ (by decide)]; exact hJ.2⟩)); simp only [Act.put, List.setIfInBounds_toArray, List.set_cons_zero, List.set_cons_succ])
              (apply rel_val (v := i64 me); (· rfl); (· (intro e' w' hD he hJ; (have x2 := X2.out); refine relv_of (u := i64 me) (w := w') (by go_simp; omega) ⟨rfl, ?_⟩; exact ⟨hJ.1.put _ _ (fun p hp hk => by (simp only [List.mem_cons, List.not_mem_nil, or_false] at hp); rcases hp with rfl | rfl <;> (first | (exfalso; revert hk; decide) | (rw [hD _ (by decide)]; simp [Env.put]))), by rw [Env.put_ne _ (by decide)]; exact hJ.2⟩)); simp only [Act.put, List.setIfInBounds_toArray, List.set_cons_zero, List.set_cons_succ])
              iterate 2 (apply rel_val; (· rfl); (· (intro e' w' hD he hJ; skip; refine relv_of (by (go_simp; first | rfl | exact ⟨rfl, rfl⟩)) ⟨rfl, ?_⟩; exact ⟨hJ.1.put _ _ (fun p hp hk => by (simp only [List.mem_cons, List.not_mem_nil, or_false] at hp); rcases hp with rfl | rfl <;> (first | (exfalso; revert hk; decide) | (rw [hD _ (by decide)]; simp [Env.put]))), by rw [Env.put_ne _ (by decide)]; exact hJ.2⟩)); simp only [Act.put, List.setIfInBounds_toArray, List.set_cons_zero, List.set_cons_succ])
              apply rel_val (v := undef)
              · rfl
              · intro e' w' hD he hJ
                have h9 := hJ.2.out
                rw [he] at h9
                have h9 : w' = W := h9
                subst h9
                have g1 : w'.cell? ⟨w1.heap.size + 4, 10, none⟩ = some (i64 sq) := HRW.out.cell0 10 rfl
                have u1 : w'.frozen? ⟨w1.heap.size + 4, 10, none⟩ = false := HRW.out.free0 10 rfl
                go_simp
                refine ⟨rfl, hJ.1.put _ _ (fun p hp hk => by (simp only [List.mem_cons, List.not_mem_nil, or_false] at hp); rcases hp with rfl | rfl <;> (first | (exfalso; revert hk; decide) | (rw [hD _ (by decide)]; simp [Env.put]))), ?_⟩
                rw [Env.put_self]
                exact (rfl : _ = _)
              simp only [Act.put, List.setIfInBounds_toArray, List.set_cons_zero, List.set_cons_succ]
              apply rel_nil
              rintro w7 ⟨-, hJ⟩
              have hJ : w7 = W.setCell ⟨w1.heap.size + 4, 10, none⟩ (i64 ms) := hJ.out
              have hr7 := HRW.out.setCell 10 (i64 ms)
              rw [Nat.zero_add, ← hJ] at hr7
              have g2 : w7.cell? ⟨w1.heap.size + 4, 11, none⟩ = some (i64 ep) := hr7.cell0 11 rfl
              have u2 : w7.frozen? ⟨w1.heap.size + 4, 11, none⟩ = false := hr7.free0 11 rfl
              have hr8 := hr7.setCell 11 (i64 me)
              rw [Nat.zero_add] at hr8
              have hT8 : Turns (· = X.f) w6 (w7.setCell ⟨w1.heap.size + 4, 11, none⟩ (i64 me)) := by
                rw [hJ]
                have hx : (fun b : Nat => b = X.f) (w1.heap.size + 4) := HFR.out
                refine Turns.setCell (Turns.setCell (Turns.of_below b6) (.inl ?_) _) (.inl ?_) _ <;> exact hx
              have hF8 : FlashAt (w7.setCell ⟨w1.heap.size + 4, 11, none⟩ (i64 me)) X (fl0 C pg (k + 1)) := by
                rw [fl0_some HBAD.out HP.out, ← HSQ.out, ← HEP.out, ← HMS.out, ← HME2.out]
                exact HF6.out.put_row (sq := ms) (ep := me) (nw := 0) (dg := false) hT8 (by rw [← HFR.out]; exact hr8)
              have hQ8 := HQ6.out.turns hT8 (by have := HFR.out; omega)
              have hTu8 := HTu6.out.trans_new hT8 (fun i hi => .inr (by have := HFR.out; omega))
              have hB8 : Below 0 wr (w7.setCell ⟨w1.heap.size + 4, 11, none⟩ (i64 me)) := HB6.out.trans (hT8.belowN (fun b hb => Nat.zero_le _) (Nat.zero_le _))
              have HF8 := Lib.hid hF8
              have HQ8 := Lib.hid hQ8
              have HTu8 := Lib.hid hTu8
              have HB8 := Lib.hid hB8
              clear hr7 hr8 hT8 hF8 hQ8 hTu8 hB8 hJ
              go_wp2_with fail
              go_meet
              exact ⟨HF8.out, HTu8.out, HB8.out, HQ8.out⟩
        · have HBAD := Lib.hid hbad
          clear hbad
          go_wp2_with fail
          refine (bad62 HCH.out (C.g.place k).b).mono ?_
          rw [show (C.opsUp k).badB (C.g.place k).b = true from HBAD.out]
          rintro e w2 ⟨rfl, hb2⟩
          go_wp2_with fail
          go_meet
          exact ⟨by rw [fl0_bad HBAD.out]; exact HF.out.below hb2, HTu.out.trans (Turns.of_below hb2), hb2.mono (by omega), hrow.below hb2⟩
      case rest =>
        obtain ⟨HF1, HT1, hB0, HQ1⟩ := hcut
        have zc := hB0.size
        have hkB : (k : Int) < C.g.B * C.g.P := by have := HNN.out; omega
        obtain ⟨hisB, hnum⟩ := place_num HC.out.ok hkB
        have hfr : w1.heap.size + 4 = X.f := by rw [← HX.out]
        have HNUM := Lib.hid hnum
        have HFR := Lib.hid hfr
        clear hrow c0 c1 hnum hfr
        have c0 := HQ1.out.cell0 0 rfl
        have c1 := HQ1.out.cell0 1 rfl
        have lqc : q < wc.heap.size := by omega
        go_wp2_with fail
        have hF2 := HF1.out.below (((Below.refl wc.heap.size wc).alloc (Nat.le_refl _) (.cells #[i64 (C.g.place k).b, i64 (C.g.place k).p] 75)))
        have hQ2 : Row (wc.alloc (.cells #[i64 (C.g.place k).b, i64 (C.g.place k).p] 75)) wc.heap.size 0 [i64 (C.g.place k).b, i64 (C.g.place k).p] := Row.new _ _ _
        have hT2 : Turns A.foot w (wc.alloc (.cells #[i64 (C.g.place k).b, i64 (C.g.place k).p] 75)) := HT1.out.alloc _
        obtain ⟨W, hW⟩ : ∃ W, wc.alloc (.cells #[i64 (C.g.place k).b, i64 (C.g.place k).p] 75) = W := ⟨_, rfl⟩
        have zW : W.heap.size = wc.heap.size + 1 := by rw [← hW]; simp
        rw [hW] at hF2 hQ2 hT2 ⊢
        have HF2 := Lib.hid hF2
        have HQ2 := Lib.hid hQ2
        have HT2 := Lib.hid hT2
        have HW := Lib.hid hW
        have hzW : wc.heap.size < W.heap.size := by omega
        have ZW := Lib.hid zW
        clear hF2 hQ2 hT2 hW zW
        by_cases hlast : k + 1 < N
        · have hl1 : C.g.num (C.g.place k) + 1 < C.g.B * C.g.P := by have := HNUM.out; have := HNN.out; omega
          have hnx : ∀ wx, Calls Tryz.prog 61 #[.agg #[i64 C.g.B, i64 C.g.P, i64 C.g.Y, i64 C.g.S, i64 C.g.T], .agg #[i64 (C.g.place k).b, i64 (C.g.place k).p]] wx fun e w' => e = .returned (.tuple #[(C.g.place ((k + 1 : Nat) : Int)).v, .bool true]) ∧ Below wx.heap.size wx w' := fun wx => by
            have := next61 C.g (C.g.place k) wx HC.out.ok hisB hl1
            rw [HNUM.out, show ((k : Int) + 1) = ((k + 1 : Nat) : Int) by omega] at this
            exact this
          have HNX := Lib.hid hnx
          clear hnx
          have hfW : Row W (w1.heap.size + 4) 0 ((fl0 C pg (k + 1)).cells X) := by rw [HFR.out]; exact HF2.out.row
          have lfq : w1.heap.size + 4 ≠ wc.heap.size := by omega
          have HFW := Lib.hid hfW
          clear hfW
          apply wp_region_rel 10 (fun e w' => Chain c9 e ∧ Hid (P9 W wc.heap.size (C.g.place ((k + 1 : Nat) : Int)) (e 9) w')) [[], [], [], [], [], [4], [5], [6], [], [7]]
          · kernel_rfl
          · kernel_rfl
          · exact ⟨fun p hp h => absurd rfl h, (by (repeat (first | exact Below.refl _ _ | assumption | (with_reducible refine Below.drew ?_) | (with_reducible refine below_drewN' ?_ _) | (with_reducible refine ext_alloc ?_ ?_; · (first | omega | (simp only [World.size_alloc, World.size_setCell, World.size_drew, World.heap_drewN]; omega) | (simp; omega))) | (with_reducible refine ext_setCell ?_ ?_; · (first | omega | (simp only [World.size_alloc, World.size_setCell, World.size_drew, World.heap_drewN]; omega) | (simp; omega))) | (refine ext_call (by assumption) ?_ ?_; · (first | omega | (simp only [World.size_alloc, World.size_setCell, World.size_drew, World.heap_drewN]; omega) | (simp; omega))))) : Below W.heap.size W _)⟩
          · kernel_rfl
          simp only [List.take_succ_cons, List.take_zero, List.drop_succ_cons, List.drop_zero]
          have hkf : ∀ (e' : Env) (w' : World), Hid (P9 W wc.heap.size (C.g.place ((k + 1 : Nat) : Int)) (e' 9) w') → Row w' (w1.heap.size + 4) 0 ((fl0 C pg (k + 1)).cells X) := fun e' w' hJ => hJ.out.row lfq HFW.out
          have HKF := Lib.hid hkf
          clear hkf
          iterate 3 (apply rel_val; (· rfl); (· (intro e' w' hD he hJ; skip; refine relv_of (by (go_simp; first | rfl | exact ⟨rfl, rfl⟩)) ⟨rfl, ?_⟩; exact ⟨hJ.1.put _ _ (fun p hp hk => by (simp only [List.mem_cons, List.not_mem_nil, or_false] at hp); rcases hp with rfl | rfl | rfl | rfl <;> (first | (exfalso; revert hk; decide) | (rw [hD _ (by decide)]; simp [Env.put]))), by rw [Env.put_ne _ (by decide)]; exact hJ.2⟩)); simp only [Act.put, List.setIfInBounds_toArray, List.set_cons_zero, List.set_cons_succ])
          (apply rel_val (v := C.g.v); (· rfl); (· (intro e' w' hD he hJ; (have r := HKF.out e' w' hJ.2; have g1 : w'.cell? ⟨w1.heap.size + 4, 1, none⟩ = some (i64 C.g.B) := r.cell0 1 rfl; have g2 : w'.cell? ⟨w1.heap.size + 4, 2, none⟩ = some (i64 C.g.P) := r.cell0 2 rfl; have g3 : w'.cell? ⟨w1.heap.size + 4, 3, none⟩ = some (i64 C.g.Y) := r.cell0 3 rfl; have g4 : w'.cell? ⟨w1.heap.size + 4, 4, none⟩ = some (i64 C.g.S) := r.cell0 4 rfl; have g5 : w'.cell? ⟨w1.heap.size + 4, 5, none⟩ = some (i64 C.g.T) := r.cell0 5 rfl); refine relv_of (u := C.g.v) (w := w') (by go_simp) ⟨rfl, ?_⟩; exact ⟨hJ.1.put _ _ (fun p hp hk => by (simp only [List.mem_cons, List.not_mem_nil, or_false] at hp); rcases hp with rfl | rfl | rfl | rfl <;> (first | (exfalso; revert hk; decide) | (rw [hD _ (by decide)]; simp [Env.put]))), by rw [Env.put_ne _ (by decide)]; exact hJ.2⟩)); simp only [Act.put, List.setIfInBounds_toArray, List.set_cons_zero, List.set_cons_succ])
          (apply rel_val (v := (C.g.place k).v); (· rfl); (· (intro e' w' hD he hJ; (have n9 := (c9_none hJ.1).1 he; have h9 := hJ.2.out; rw [n9] at h9; have r := HQ2.out.below h9; have g1 := r.cell0 0 rfl; have g2 := r.cell0 1 rfl); refine relv_of (u := (C.g.place k).v) (w := w') (by go_simp) ⟨rfl, ?_⟩; exact ⟨hJ.1.put _ _ (fun p hp hk => by (simp only [List.mem_cons, List.not_mem_nil, or_false] at hp); rcases hp with rfl | rfl | rfl | rfl <;> (first | (exfalso; revert hk; decide) | (rw [hD _ (by decide)]; simp [Env.put]))), by rw [Env.put_ne _ (by decide)]; exact hJ.2⟩)); simp only [Act.put, List.setIfInBounds_toArray, List.set_cons_zero, List.set_cons_succ])
          (apply rel_val (v := .tuple #[(C.g.place ((k + 1 : Nat) : Int)).v, .bool true]); (· rfl); (· (intro e' w' hD he hJ; refine rel_call (by (go_simp; first | rfl | exact ⟨⟨rfl, rfl⟩, rfl⟩)) ?_; refine (HNX.out _).mono ?_; rintro e w'' ⟨rfl, hbx⟩; refine ⟨_, rfl, rfl, ?_⟩; (have n9 := (c9_none hJ.1).2 he; have h9 := hJ.2.out; rw [n9] at h9; refine ⟨hJ.1.put _ _ (fun p hp hk => by (simp only [List.mem_cons, List.not_mem_nil, or_false] at hp); rcases hp with rfl | rfl | rfl | rfl <;> (first | (exfalso; revert hk; decide) | (rw [hD _ (by decide)]; simp [Env.put]))), ?_⟩; rw [Env.put_ne _ (by decide), n9]; exact ext_call hbx h9.size h9))); simp only [Act.put, List.setIfInBounds_toArray, List.set_cons_zero, List.set_cons_succ])
          (apply rel_val; (· rfl); (· (intro e' w' hD he hJ; skip; refine relv_of (by (go_simp; first | rfl | exact ⟨rfl, rfl⟩)) ⟨rfl, ?_⟩; exact ⟨hJ.1.put _ _ (fun p hp hk => by (simp only [List.mem_cons, List.not_mem_nil, or_false] at hp); rcases hp with rfl | rfl | rfl | rfl <;> (first | (exfalso; revert hk; decide) | (rw [hD _ (by decide)]; simp [Env.put]))), by rw [Env.put_ne _ (by decide)]; exact hJ.2⟩)); simp only [Act.put, List.setIfInBounds_toArray, List.set_cons_zero, List.set_cons_succ])
          (apply rel_val (v := (C.g.place ((k + 1 : Nat) : Int)).v); (· rfl); (· (intro e' w' hD he hJ; skip; refine relv_of (u := (C.g.place ((k + 1 : Nat) : Int)).v) (w := w') (by go_simp) ⟨rfl, ?_⟩; exact ⟨hJ.1.put _ _ (fun p hp hk => by (simp only [List.mem_cons, List.not_mem_nil, or_false] at hp); rcases hp with rfl | rfl | rfl | rfl <;> (first | (exfalso; revert hk; decide) | (rw [hD _ (by decide)]; simp [Env.put]))), by rw [Env.put_ne _ (by decide)]; exact hJ.2⟩)); simp only [Act.put, List.setIfInBounds_toArray, List.set_cons_zero, List.set_cons_succ])
          (apply rel_val (v := .bool true); (· rfl); (· (intro e' w' hD he hJ; skip; refine relv_of (u := .bool true) (w := w') (by go_simp) ⟨rfl, ?_⟩; exact ⟨hJ.1.put _ _ (fun p hp hk => by (simp only [List.mem_cons, List.not_mem_nil, or_false] at hp); rcases hp with rfl | rfl | rfl | rfl <;> (first | (exfalso; revert hk; decide) | (rw [hD _ (by decide)]; simp [Env.put]))), by rw [Env.put_ne _ (by decide)]; exact hJ.2⟩)); simp only [Act.put, List.setIfInBounds_toArray, List.set_cons_zero, List.set_cons_succ])
          apply rel_val (v := undef)
          · rfl
          · intro e' w' hD he hJ
            have h9 := hJ.2.out
            rw [he] at h9
            have r := HQ2.out.below h9
            have g1 := r.cell0 0 rfl
            have g2 := r.cell0 1 rfl
            have u1 := r.free0 0 rfl
            have u2 := r.free0 1 rfl
            go_simp
            refine ⟨rfl, hJ.1.put _ _ (fun p hp hk => by (simp only [List.mem_cons, List.not_mem_nil, or_false] at hp); rcases hp with rfl | rfl | rfl | rfl <;> (first | (exfalso; revert hk; decide) | (rw [hD _ (by decide)]; simp [Env.put]))), ?_⟩
            rw [Env.put_self]
            exact ⟨w', h9, rfl⟩
          simp only [Act.put, List.setIfInBounds_toArray, List.set_cons_zero, List.set_cons_succ]
          apply rel_nil
          rintro w5 ⟨-, hJ⟩
          obtain ⟨w0, hb0, rfl⟩ := hJ.out
          clear hJ
          have hTw : Turns (fun b => b = wc.heap.size) W ((w0.setCell ⟨wc.heap.size, 0, none⟩ (i64 (C.g.place ((k + 1 : Nat) : Int)).b)).setCell ⟨wc.heap.size, 1, none⟩ (i64 (C.g.place ((k + 1 : Nat) : Int)).p)) := by
            have hx : (fun b : Nat => b = wc.heap.size) wc.heap.size := rfl
            refine Turns.setCell (Turns.setCell (Turns.of_below hb0) (.inl ?_) _) (.inl ?_) _ <;> exact hx
          have hlow : ∀ b, b < wc.heap.size → b ≠ wc.heap.size := fun b hb => by omega
          have hF5 : FlashAt ((w0.setCell ⟨wc.heap.size, 0, none⟩ (i64 (C.g.place ((k + 1 : Nat) : Int)).b)).setCell ⟨wc.heap.size, 1, none⟩ (i64 (C.g.place ((k + 1 : Nat) : Int)).p)) X (fl0 C pg (k + 1)) := by
            have h1 := HF1.out.below ((Below.refl wc.heap.size wc).alloc (Nat.le_refl _) (.cells #[i64 (C.g.place k).b, i64 (C.g.place k).p] 75) |>.trans ((by rw [HW.out]; exact hTw : Turns (fun b => b = wc.heap.size) (wc.alloc (.cells #[i64 (C.g.place k).b, i64 (C.g.place k).p] 75)) _).belowN (by intro b hb; subst hb; exact Nat.le_refl _) (by simp)))
            exact h1
          have hR5 : Row ((w0.setCell ⟨wc.heap.size, 0, none⟩ (i64 (C.g.place ((k + 1 : Nat) : Int)).b)).setCell ⟨wc.heap.size, 1, none⟩ (i64 (C.g.place ((k + 1 : Nat) : Int)).p)) wc.heap.size 0 [i64 (C.g.place ((k + 1 : Nat) : Int)).b, i64 (C.g.place ((k + 1 : Nat) : Int)).p] := by
            have := ((HQ2.out.below hb0).setCell 0 (i64 (C.g.place ((k + 1 : Nat) : Int)).b)).setCell 1 (i64 (C.g.place ((k + 1 : Nat) : Int)).p)
            simpa using this
          have hT5 : Turns A.foot w ((w0.setCell ⟨wc.heap.size, 0, none⟩ (i64 (C.g.place ((k + 1 : Nat) : Int)).b)).setCell ⟨wc.heap.size, 1, none⟩ (i64 (C.g.place ((k + 1 : Nat) : Int)).p)) :=
            ((HT2.out.trans (Turns.of_below hb0)).setCell (.inr (by have := HTu.out.size; simp only; omega)) _).setCell (.inr (by have := HTu.out.size; simp only; omega)) _
          have hz5 := hTw.size
          have HF5 := Lib.hid hF5
          have HR5 := Lib.hid hR5
          have HT5 := Lib.hid hT5
          generalize (w0.setCell ⟨wc.heap.size, 0, none⟩ (i64 (C.g.place ((k + 1 : Nat) : Int)).b)).setCell ⟨wc.heap.size, 1, none⟩ (i64 (C.g.place ((k + 1 : Nat) : Int)).p) = w5 at *
          clear hTw hF5 hR5 hT5
          go_wp2_with fail
          refine ⟨⟨k + 1, wc.heap.size, by omega, rfl, by omega, by omega, ?_, by simp [hlast], HF5, HT5⟩, ?_⟩
          · rw [if_pos hlast, if_pos hlast]; exact HR5.out
          · have h1 := (place_num HC.out.ok (k := k + 1) (by have := HNN.out; omega)).2
            show mM C.g N (ptr wc.heap.size) (.bool true) w5 < _
            rw [mM_at HR5.out, h1]
            have := HME.out
            omega
        · have hl1 : C.g.num (C.g.place k) + 1 = C.g.B * C.g.P := by have := HNUM.out; have := HNN.out; omega
          have hnx : ∀ wx, Calls Tryz.prog 61 #[.agg #[i64 C.g.B, i64 C.g.P, i64 C.g.Y, i64 C.g.S, i64 C.g.T], .agg #[i64 (C.g.place k).b, i64 (C.g.place k).p]] wx fun e w' => e = .returned (.tuple #[(Plc.v ⟨0, 0⟩), .bool false]) ∧ Below wx.heap.size wx w' := fun wx => next61_end C.g (C.g.place k) wx HC.out.ok hisB hl1
          have HNX := Lib.hid hnx
          clear hnx
          have hfW : Row W (w1.heap.size + 4) 0 ((fl0 C pg (k + 1)).cells X) := by rw [HFR.out]; exact HF2.out.row
          have lfq : w1.heap.size + 4 ≠ wc.heap.size := by omega
          have HFW := Lib.hid hfW
          clear hfW
          apply wp_region_rel 10 (fun e w' => Chain c9 e ∧ Hid (P9 W wc.heap.size ⟨0, 0⟩ (e 9) w')) [[], [], [], [], [], [4], [5], [6], [], [7]]
          · kernel_rfl
          · kernel_rfl
          · exact ⟨fun p hp h => absurd rfl h, (by (repeat (first | exact Below.refl _ _ | assumption | (with_reducible refine Below.drew ?_) | (with_reducible refine below_drewN' ?_ _) | (with_reducible refine ext_alloc ?_ ?_; · (first | omega | (simp only [World.size_alloc, World.size_setCell, World.size_drew, World.heap_drewN]; omega) | (simp; omega))) | (with_reducible refine ext_setCell ?_ ?_; · (first | omega | (simp only [World.size_alloc, World.size_setCell, World.size_drew, World.heap_drewN]; omega) | (simp; omega))) | (refine ext_call (by assumption) ?_ ?_; · (first | omega | (simp only [World.size_alloc, World.size_setCell, World.size_drew, World.heap_drewN]; omega) | (simp; omega))))) : Below W.heap.size W _)⟩
          · kernel_rfl
          simp only [List.take_succ_cons, List.take_zero, List.drop_succ_cons, List.drop_zero]
          have hkf : ∀ (e' : Env) (w' : World), Hid (P9 W wc.heap.size ⟨0, 0⟩ (e' 9) w') → Row w' (w1.heap.size + 4) 0 ((fl0 C pg (k + 1)).cells X) := fun e' w' hJ => hJ.out.row lfq HFW.out
          have HKF := Lib.hid hkf
          clear hkf
          iterate 3 (apply rel_val; (· rfl); (· (intro e' w' hD he hJ; skip; refine relv_of (by (go_simp; first | rfl | exact ⟨rfl, rfl⟩)) ⟨rfl, ?_⟩; exact ⟨hJ.1.put _ _ (fun p hp hk => by (simp only [List.mem_cons, List.not_mem_nil, or_false] at hp); rcases hp with rfl | rfl | rfl | rfl <;> (first | (exfalso; revert hk; decide) | (rw [hD _ (by decide)]; simp [Env.put]))), by rw [Env.put_ne _ (by decide)]; exact hJ.2⟩)); simp only [Act.put, List.setIfInBounds_toArray, List.set_cons_zero, List.set_cons_succ])
          (apply rel_val (v := C.g.v); (· rfl); (· (intro e' w' hD he hJ; (have r := HKF.out e' w' hJ.2; have g1 : w'.cell? ⟨w1.heap.size + 4, 1, none⟩ = some (i64 C.g.B) := r.cell0 1 rfl; have g2 : w'.cell? ⟨w1.heap.size + 4, 2, none⟩ = some (i64 C.g.P) := r.cell0 2 rfl; have g3 : w'.cell? ⟨w1.heap.size + 4, 3, none⟩ = some (i64 C.g.Y) := r.cell0 3 rfl; have g4 : w'.cell? ⟨w1.heap.size + 4, 4, none⟩ = some (i64 C.g.S) := r.cell0 4 rfl; have g5 : w'.cell? ⟨w1.heap.size + 4, 5, none⟩ = some (i64 C.g.T) := r.cell0 5 rfl); refine relv_of (u := C.g.v) (w := w') (by go_simp) ⟨rfl, ?_⟩; exact ⟨hJ.1.put _ _ (fun p hp hk => by (simp only [List.mem_cons, List.not_mem_nil, or_false] at hp); rcases hp with rfl | rfl | rfl | rfl <;> (first | (exfalso; revert hk; decide) | (rw [hD _ (by decide)]; simp [Env.put]))), by rw [Env.put_ne _ (by decide)]; exact hJ.2⟩)); simp only [Act.put, List.setIfInBounds_toArray, List.set_cons_zero, List.set_cons_succ])
          (apply rel_val (v := (C.g.place k).v); (· rfl); (· (intro e' w' hD he hJ; (have n9 := (c9_none hJ.1).1 he; have h9 := hJ.2.out; rw [n9] at h9; have r := HQ2.out.below h9; have g1 := r.cell0 0 rfl; have g2 := r.cell0 1 rfl); refine relv_of (u := (C.g.place k).v) (w := w') (by go_simp) ⟨rfl, ?_⟩; exact ⟨hJ.1.put _ _ (fun p hp hk => by (simp only [List.mem_cons, List.not_mem_nil, or_false] at hp); rcases hp with rfl | rfl | rfl | rfl <;> (first | (exfalso; revert hk; decide) | (rw [hD _ (by decide)]; simp [Env.put]))), by rw [Env.put_ne _ (by decide)]; exact hJ.2⟩)); simp only [Act.put, List.setIfInBounds_toArray, List.set_cons_zero, List.set_cons_succ])
          (apply rel_val (v := .tuple #[(Plc.v ⟨0, 0⟩), .bool false]); (· rfl); (· (intro e' w' hD he hJ; refine rel_call (by (go_simp; first | rfl | exact ⟨⟨rfl, rfl⟩, rfl⟩)) ?_; refine (HNX.out _).mono ?_; rintro e w'' ⟨rfl, hbx⟩; refine ⟨_, rfl, rfl, ?_⟩; (have n9 := (c9_none hJ.1).2 he; have h9 := hJ.2.out; rw [n9] at h9; refine ⟨hJ.1.put _ _ (fun p hp hk => by (simp only [List.mem_cons, List.not_mem_nil, or_false] at hp); rcases hp with rfl | rfl | rfl | rfl <;> (first | (exfalso; revert hk; decide) | (rw [hD _ (by decide)]; simp [Env.put]))), ?_⟩; rw [Env.put_ne _ (by decide), n9]; exact ext_call hbx h9.size h9))); simp only [Act.put, List.setIfInBounds_toArray, List.set_cons_zero, List.set_cons_succ])
          (apply rel_val; (· rfl); (· (intro e' w' hD he hJ; skip; refine relv_of (by (go_simp; first | rfl | exact ⟨rfl, rfl⟩)) ⟨rfl, ?_⟩; exact ⟨hJ.1.put _ _ (fun p hp hk => by (simp only [List.mem_cons, List.not_mem_nil, or_false] at hp); rcases hp with rfl | rfl | rfl | rfl <;> (first | (exfalso; revert hk; decide) | (rw [hD _ (by decide)]; simp [Env.put]))), by rw [Env.put_ne _ (by decide)]; exact hJ.2⟩)); simp only [Act.put, List.setIfInBounds_toArray, List.set_cons_zero, List.set_cons_succ])
          (apply rel_val (v := (Plc.v ⟨0, 0⟩)); (· rfl); (· (intro e' w' hD he hJ; skip; refine relv_of (u := (Plc.v ⟨0, 0⟩)) (w := w') (by go_simp) ⟨rfl, ?_⟩; exact ⟨hJ.1.put _ _ (fun p hp hk => by (simp only [List.mem_cons, List.not_mem_nil, or_false] at hp); rcases hp with rfl | rfl | rfl | rfl <;> (first | (exfalso; revert hk; decide) | (rw [hD _ (by decide)]; simp [Env.put]))), by rw [Env.put_ne _ (by decide)]; exact hJ.2⟩)); simp only [Act.put, List.setIfInBounds_toArray, List.set_cons_zero, List.set_cons_succ])
          (apply rel_val (v := .bool false); (· rfl); (· (intro e' w' hD he hJ; skip; refine relv_of (u := .bool false) (w := w') (by go_simp) ⟨rfl, ?_⟩; exact ⟨hJ.1.put _ _ (fun p hp hk => by (simp only [List.mem_cons, List.not_mem_nil, or_false] at hp); rcases hp with rfl | rfl | rfl | rfl <;> (first | (exfalso; revert hk; decide) | (rw [hD _ (by decide)]; simp [Env.put]))), by rw [Env.put_ne _ (by decide)]; exact hJ.2⟩)); simp only [Act.put, List.setIfInBounds_toArray, List.set_cons_zero, List.set_cons_succ])
          apply rel_val (v := undef)
          · rfl
          · intro e' w' hD he hJ
            have h9 := hJ.2.out
            rw [he] at h9
            have r := HQ2.out.below h9
            have g1 := r.cell0 0 rfl
            have g2 := r.cell0 1 rfl
            have u1 := r.free0 0 rfl
            have u2 := r.free0 1 rfl
            go_simp
            refine ⟨rfl, hJ.1.put _ _ (fun p hp hk => by (simp only [List.mem_cons, List.not_mem_nil, or_false] at hp); rcases hp with rfl | rfl | rfl | rfl <;> (first | (exfalso; revert hk; decide) | (rw [hD _ (by decide)]; simp [Env.put]))), ?_⟩
            rw [Env.put_self]
            exact ⟨w', h9, rfl⟩
          simp only [Act.put, List.setIfInBounds_toArray, List.set_cons_zero, List.set_cons_succ]
          apply rel_nil
          rintro w5 ⟨-, hJ⟩
          obtain ⟨w0, hb0, rfl⟩ := hJ.out
          clear hJ
          have hTw : Turns (fun b => b = wc.heap.size) W ((w0.setCell ⟨wc.heap.size, 0, none⟩ (i64 0)).setCell ⟨wc.heap.size, 1, none⟩ (i64 0)) := by
            have hx : (fun b : Nat => b = wc.heap.size) wc.heap.size := rfl
            refine Turns.setCell (Turns.setCell (Turns.of_below hb0) (.inl ?_) _) (.inl ?_) _ <;> exact hx
          have hlow : ∀ b, b < wc.heap.size → b ≠ wc.heap.size := fun b hb => by omega
          have hF5 : FlashAt ((w0.setCell ⟨wc.heap.size, 0, none⟩ (i64 0)).setCell ⟨wc.heap.size, 1, none⟩ (i64 0)) X (fl0 C pg (k + 1)) := by
            have h1 := HF1.out.below ((Below.refl wc.heap.size wc).alloc (Nat.le_refl _) (.cells #[i64 (C.g.place k).b, i64 (C.g.place k).p] 75) |>.trans ((by rw [HW.out]; exact hTw : Turns (fun b => b = wc.heap.size) (wc.alloc (.cells #[i64 (C.g.place k).b, i64 (C.g.place k).p] 75)) _).belowN (by intro b hb; subst hb; exact Nat.le_refl _) (by simp)))
            exact h1
          have hR5 : Row ((w0.setCell ⟨wc.heap.size, 0, none⟩ (i64 0)).setCell ⟨wc.heap.size, 1, none⟩ (i64 0)) wc.heap.size 0 [i64 0, i64 0] := by
            have := ((HQ2.out.below hb0).setCell 0 (i64 0)).setCell 1 (i64 0)
            simpa using this
          have hT5 : Turns A.foot w ((w0.setCell ⟨wc.heap.size, 0, none⟩ (i64 0)).setCell ⟨wc.heap.size, 1, none⟩ (i64 0)) :=
            ((HT2.out.trans (Turns.of_below hb0)).setCell (.inr (by have := HTu.out.size; simp only; omega)) _).setCell (.inr (by have := HTu.out.size; simp only; omega)) _
          have hz5 := hTw.size
          have HF5 := Lib.hid hF5
          have HR5 := Lib.hid hR5
          have HT5 := Lib.hid hT5
          generalize (w0.setCell ⟨wc.heap.size, 0, none⟩ (i64 0)).setCell ⟨wc.heap.size, 1, none⟩ (i64 0) = w5 at *
          clear hTw hF5 hR5 hT5
          go_wp2_with fail
          refine ⟨⟨k + 1, wc.heap.size, by omega, rfl, by omega, by omega, ?_, by simp [hlast], HF5, HT5⟩, ?_⟩
          · rw [if_neg hlast, if_neg hlast]; exact HR5.out
          · show 0 < _
            have := HME.out
            omega
    · have e : k = N := by omega
      subst e
      have hd : decide (k < k) = false := by simp
      rw [hd]
      have hNB : (k : Int) ≤ C.g.B * C.g.P := by have := HNN.out; omega
      have hfr : w1.heap.size + 4 = X.f := by rw [← HX.out]
      have hmf0 : X.mf = w1.heap.size := by rw [← HX.out]
      have hmb0 : X.mb = w1.heap.size + 1 := by rw [← HX.out]
      have hms0 : X.ms = w1.heap.size + 3 := by rw [← HX.out]
      obtain ⟨fd, hfd⟩ : ∃ fd, fd = fdOf C pg k := ⟨_, rfl⟩
      have hso : fd.Pairwise (fun x y => C.g.numZ x.at_ < C.g.numZ y.at_) := by rw [hfd]; exact fdOf_sorted pg HC.out.ok k hNB
      have hln : fd.length ≤ 160 := by
        rw [hfd]; have := List.length_filterMap_le (fnd1 C pg) (List.range k); simp at this; unfold fdOf; omega
      have hpl : ∀ x ∈ fd, 0 ≤ x.at_.b ∧ (ok64 x.at_.b ∧ ok64 x.at_.p) ∧ x.tag.Ok := by
        intro x hx
        rw [hfd] at hx
        obtain ⟨i, hi, hxa, hpx, hbx⟩ := fdOf_mem hx
        have hpn := place_num HC.out.ok (k := i) (by have := HNN.out; omega)
        have hb := num_bounds HC.out.ok hpn.1
        have hgo := (Geo.ok_iff _).1 HC.out.ok
        have b2 := hgo.b2; have p2 := hgo.p2
        obtain ⟨blk, hblk⟩ : ∃ b, C.at (C.g.place i).b = some b := by
          have h3 := HC.out.bn
          refine ⟨C.bk[(C.g.place i).b.toNat]'(by omega), ?_⟩
          rw [Chip.at, if_pos hb.2.2.2.1]; exact List.getElem?_eq_getElem _
        have hc := HPG.out (C.g.place i) blk hpn.1 hblk hbx
        rw [hpx] at hc
        rw [hxa]
        refine ⟨hb.2.2.2.1, ?_, hc.1⟩
        simp only [ok64]; omega
      have hlist : listOf (-1) fd = fd.map Fnd.pt := keep_all (fun x hx => by obtain ⟨y, hy, rfl⟩ := List.mem_map.1 hx; exact (hpl y hy).1)
      have hptok : ∀ x ∈ fd.map Fnd.pt, x.tag.Ok := fun x hx => by obtain ⟨y, hy, rfl⟩ := List.mem_map.1 hx; exact (hpl y hy).2.2
      have HFR := Lib.hid hfr
      have HMF := Lib.hid hmf0
      have HMB := Lib.hid hmb0
      have HMS := Lib.hid hms0
      have HSO := Lib.hid hso
      have HPL := Lib.hid hpl
      have HLI := Lib.hid hlist
      have HFD := Lib.hid hfd
      have HPT := Lib.hid hptok
      clear hfr hmf0 hmb0 hms0 hso hpl hlist hfd hptok hrow
      have hlaw : ∀ W, Below wr.heap.size wr W → Calls Tryz.prog 65 #[ptr (w1.heap.size + 4), i64 (-1)] W fun e w' => (∃ v A' cap, e = .returned v ∧ v = .slice A' fd.length cap ∧ SlAt w' v fd.length ((fd.map Fnd.pt).flatMap PT.cells)) ∧ Below W.heap.size W w' := by
        intro W hW
        have hF := HF.out.below hW
        obtain ⟨sl, hm, hs⟩ := hF.found
        have := list65 (C := (fl0 C pg k).C) (A := X.A) hF.hd (hF.row.cell0 6 rfl) (fl0 C pg k).fd sl hm (by have := HSO.out; rw [HFD.out] at this; exact this) (by have := hln; rw [HFD.out] at this; exact this) (fun x hx => (hs x hx).sl) (-1)
        have e1 : listOf (-1) (fl0 C pg k).fd = fd.map Fnd.pt := by have := HLI.out; rw [HFD.out] at this ⊢; exact this
        rw [e1, List.length_map] at this
        rw [HFR.out]; exact this
      have HLAW := Lib.hid hlaw
      clear hlaw
      go_wp2_with fail
      refine (HLAW.out _ (Below.refl _ _)).mono ?_
      rintro e w2 ⟨⟨v, A2, cap2, rfl, rfl, hsl2⟩, hb2⟩
      have z2 := hb2.size
      have hall := all64 (fd.map Fnd.pt) fd.length (by simp) A2 cap2 w2 hsl2 (by omega) (fun x hx => by have h0 := HPT.out x hx; have p0 := h0.p0; have p1 := h0.p1; simp only [ok64]; omega)
      have HALL := Lib.hid hall
      clear hall hsl2
      go_wp2_with fail
      refine HALL.out.mono ?_
      rintro e w3 ⟨⟨v, ks, rfl, hks, hkm, hown⟩, hb3⟩
      have z3 := hb3.size
      obtain ⟨R, hR⟩ : ∃ R, R = ks.filterMap (pickOf (newestOf (fd.map Fnd.pt))) := ⟨_, rfl⟩
      rw [← hR] at hown
      have hRm : ∀ x ∈ R, x ∈ fd.map Fnd.pt ∧ pickOf (newestOf (fd.map Fnd.pt)) x.tag.page = some x := fun x hx => pick_mem (by rw [hR] at hx; exact hx)
      have hRall : baseTo fd R = baseOf fd := by rw [hR]; exact baseTo_all hkm
      have hRl : R.length ≤ 1000 := by
        rw [hR]
        have h1 := List.length_filterMap_le (pickOf (newestOf (fd.map Fnd.pt))) ks
        have h2 : ks.length ≤ (fd.map fun x => x.tag.page).length := nodup_len (hks.imp fun h e => by omega) fun n hn => by
          obtain ⟨x, hx⟩ := Option.isSome_iff_exists.1 ((hkm n).1 hn)
          obtain ⟨h1, h2⟩ := newest_dom hx
          obtain ⟨y, hy, rfl⟩ := List.mem_map.1 h1
          exact List.mem_map.2 ⟨y, hy, h2⟩
        simp at h2; omega
      obtain ⟨hsl, A', cap', rfl⟩ := own_slat hown (by decide)
      obtain ⟨a0, c0', hv0, -, hr⟩ := hsl
      simp only [Value.slice.injEq] at hv0
      obtain ⟨rfl, -, rfl⟩ := hv0
      have hF3 : FlashAt w3 X (fl0 C pg k) := (HF.out.below hb2).below hb3
      have hTu3 : Turns A.foot w w3 := (HTu.out.trans (Turns.of_below hb2)).trans (Turns.of_below hb3)
      have HF3 : Hid (FlashAt w3 X { fl0 C pg k with base := baseTo fd [] }) := by rw [baseTo_nil]; exact hF3
      have HTu3 := Lib.hid hTu3
      have HRM := Lib.hid hRm
      have HRA := Lib.hid hRall
      have hFF := field109d
      clear hF3 hTu3 hRm hRall hown hks hkm hR HALL
      go_wp2_with fail
      go_loopw [91] (fun i wr => ∃ j : Nat, j ≤ R.length ∧ i = .int .i64 j ∧ Hid (FlashAt wr X { fl0 C pg k with base := baseTo fd (R.take j) }) ∧ Hid (Turns A.foot w wr) ∧ Hid (Turns (· = X.mb) w3 wr)) (fun i _ => R.length - (RowKit.intOf i).toNat)
      case atStart => exact ⟨0, Nat.zero_le _, rfl, HF3, HTu3, Lib.hid (Turns.refl _ _)⟩
      case round =>
        obtain ⟨j, hj, rfl, HFj, HTj, HSj⟩ := hrel
        have hzj := HSj.out.size
        have j0 : (0 : Int) ≤ (j : Int) := by omega
        have hkw : IntKind.i64.wrap ((j : Int) + 1) = ((j + 1 : Nat) : Int) := by rw [IntWalk.i64_in _ (by omega)]; omega
        by_cases hlt' : j < R.length
        · obtain ⟨x, hx⟩ : ∃ x, R[j]? = some x := ⟨R[j], List.getElem?_eq_getElem hlt'⟩
          obtain ⟨hxm, hxp⟩ := HRM.out x (List.mem_of_getElem? hx)
          obtain ⟨y, hy, hyx⟩ := List.mem_map.1 hxm
          obtain hr | ⟨vb, off, rfl, hr⟩ := hr
          · exfalso
            have := flat_get PT.cells 6 (fun _ => rfl) R j 0 x _ hx rfl
            rw [hr] at this; simp at this
          have hvbne : vb ≠ X.mb := by
            intro e0
            have h1 := (hr 0 _ (by have := flat_get PT.cells 6 (fun _ => rfl) R 0 0 (R[0]'(by omega)) _ (List.getElem?_eq_getElem _) rfl; simpa using this)).1
            obtain ⟨g, hg, _⟩ := HF3.out.base
            obtain ⟨l, hm, _⟩ := hg
            obtain ⟨es, ck, hh, _⟩ := hm
            rw [e0] at h1
            simp only [World.cell?] at h1
            rw [show w3.heap[X.mb]? = some (.map es ck) from hh] at h1
            cases h1
          have hrow := (hr.elem 6 (fun _ => rfl) hx).turns HSj.out hvbne
          have c0 : wr.cell? ⟨vb, off + j * 6, none⟩ = some (i64 x.at_.b) := hrow.cell 0 rfl
          have c1 : wr.cell? ⟨vb, off + j * 6 + 1, none⟩ = some (i64 x.at_.p) := hrow.cell 1 rfl
          have c2 : wr.cell? ⟨vb, off + j * 6 + 2, none⟩ = some (i64 x.tag.kind) := hrow.cell 2 rfl
          have c3 : wr.cell? ⟨vb, off + j * 6 + 3, none⟩ = some (i64 x.tag.page) := hrow.cell 3 rfl
          have c4 : wr.cell? ⟨vb, off + j * 6 + 4, none⟩ = some (i64 x.tag.seq) := hrow.cell 4 rfl
          have c5 : wr.cell? ⟨vb, off + j * 6 + 5, none⟩ = some (i64 x.tag.epoch) := hrow.cell 5 rfl
          have hvb := World.block_lt_of_cell? _ _ c0
          have hF := HFj.out
          obtain ⟨sl, hm, hs⟩ := hF.found
          obtain ⟨g, hg, hgo⟩ := hF.base
          have hsd := hs y (by have := HFD.out; rw [this] at hy; exact hy)
          obtain ⟨db, dof, dc, hsy, hd1, hd2, hd3, hd4⟩ := hsd
          have hbytes : BytesAt X.mut wr (.slice (some ⟨db, dof, none⟩) y.data.length dc) y.data := ⟨db, dof, dc, rfl, hd1, hd2, hd3, hd4⟩
          have hxa : x.at_ = y.at_ := by rw [← hyx]; rfl
          have hxt : x.tag = y.tag := by rw [← hyx]; rfl
          have hlk : ∀ W, Below wr.heap.size wr W → (Instr.lookup 97 (.map (some X.mf)) (.agg #[i64 x.at_.b, i64 x.at_.p]) false).run Tryz.prog W = .ok (.agg #[i64 x.tag.kind, i64 x.tag.page, i64 x.tag.seq, i64 x.tag.epoch, .slice (some ⟨db, dof, none⟩) y.data.length dc]) W := by
            intro W hW
            have h1 := (hm.below hW).lookup1 keysP (fun p hp => by obtain ⟨z, hz, rfl⟩ := List.mem_map.1 hp; exact (HPL.out z (by have := HFD.out; rw [this]; exact hz)).2.1) Tryz.underlying97 (Tryz.zeroValue109 W) x.at_ (by rw [hxa]; exact (HPL.out y hy).2.1)
            have h2 := look_entry (sl := sl) HSO.out hy
            have h3 : (fl0 C pg k).fd = fd := HFD.out.symm
            simp only [h3] at h1
            rw [hxa] at h1 ⊢
            rw [h2, hsy] at h1
            rw [hxt]
            exact h1
          have hbd : baseOf fd x.tag.page = some y.data := by
            rw [baseOf, hxp, Option.bind_some, hxa]
            exact dataAt_mem (key := fun p => C.g.numZ p) HSO.out hy
          have hsn := baseTo_snoc hx hbd
          have hok : ok64 x.tag.page := by have h0 := HPT.out x hxm; have p0 := h0.p0; have p1 := h0.p1; simp only [ok64]; omega
          have k6 : wr.cell? ⟨w1.heap.size + 4, 6, none⟩ = some (.map (some X.mf)) := by rw [HFR.out]; exact hF.row.cell0 6 rfl
          have k7 : wr.cell? ⟨w1.heap.size + 4, 7, none⟩ = some (.map (some X.mb)) := by rw [HFR.out]; exact hF.row.cell0 7 rfl
          have lf2 : w1.heap.size + 4 < wr.heap.size := by rw [HFR.out]; exact hF.f_lt
          have lf3 : w1.heap.size + 4 < wr.heap.size + 1 := by omega
          have nf3 : w1.heap.size + 4 ≠ wr.heap.size := by omega
          have HLK := Lib.hid hlk
          have HBY := Lib.hid hbytes
          have HG := Lib.hid hg
          have HGO := Lib.hid hgo
          have HSN := Lib.hid hsn
          have HOKX := Lib.hid hok
          clear hlk hbytes hg hgo hsn hok hr hrow hx hxm hxp hyx hxa hxt hm hs hsy hd1 hd2 hd3 hd4 hbd hF hy
          go_wp2_with fail
          refine wp_region_keep 15 (fun wJ => Below ((wr.alloc (.cells x.cells.toArray 114))).heap.size ((wr.alloc (.cells x.cells.toArray 114))) wJ) (by kernel_rfl) (by kernel_rfl) (by (repeat (first | exact Below.refl _ _ | assumption | (with_reducible refine Below.drew ?_) | (with_reducible refine below_drewN' ?_ _) | (with_reducible refine ext_alloc ?_ ?_; · (first | omega | (simp only [World.size_alloc, World.size_setCell, World.size_drew, World.heap_drewN]; omega) | (simp; omega))) | (with_reducible refine ext_setCell ?_ ?_; · (first | omega | (simp only [World.size_alloc, World.size_setCell, World.size_drew, World.heap_drewN]; omega) | (simp; omega))) | (refine ext_call (by assumption) ?_ ?_; · (first | omega | (simp only [World.size_alloc, World.size_setCell, World.size_drew, World.heap_drewN]; omega) | (simp; omega)))))) ?_
          simp only [List.take_succ_cons, List.take_zero, List.drop_succ_cons, List.drop_zero]
          iterate 13 (apply keep_yes; (· rfl); (· (intro w' hJ; (try obtain ⟨hc', hf'⟩ := bcell hJ); refine gives_of (by (go_simp; rfl)) rfl hJ)); simp only [Act.put, List.setIfInBounds_toArray, List.set_cons_zero, List.set_cons_succ])
          (apply keep_yes; (· rfl); (· (intro w' hJ; (try obtain ⟨hc', hf'⟩ := bcell hJ); have hlk := HLK.out w' (ext_call hJ (by simp) ((Below.refl _ _).alloc (Nat.le_refl _) _)); refine gives_of (by (go_simp; rfl)) rfl hJ)); simp only [Act.put, List.setIfInBounds_toArray, List.set_cons_zero, List.set_cons_succ])
          (apply keep_yes; (· rfl); (· (intro w' hJ; (try obtain ⟨hc', hf'⟩ := bcell hJ); refine gives_of (by (go_simp; rfl)) rfl hJ)); simp only [Act.put, List.setIfInBounds_toArray, List.set_cons_zero, List.set_cons_succ])
          refine keep_nil ?_
          intro w5 hJ5
          have h05 : Below wr.heap.size wr w5 := ext_call hJ5 (by simp) ((Below.refl _ _).alloc (Nat.le_refl _) _)
          have z5 := h05.size
          have H05 := Lib.hid h05
          go_wp2_with (at_mapUpdate; refine stopT ?_)
          unfold Go.RowKit.Hid
          apply wpl_put HG.out keysI Tryz.underlying98 x.tag.page HOKX.out (.slice (some ⟨db, dof, none⟩) y.data.length dc)
          · exact H05.out
          · rfl
          · rfl
          · rfl
          · rfl
          · rfl
          intro w6 hM6 hT6 hz6
          have hF5 := HFj.out.below H05.out
          have hbase6 := BaseAt.put (M := X.mut) (w := w5) (w' := w6) (b := X.mb) (fun n => (HGO.out n).turns (M' := fun _ => False) (Turns.of_below H05.out) (fun _ _ h => h.elim)) x.tag.page (HBY.out.below H05.out) hM6 hT6 (.inr (.inr (.inr (.inl rfl))))
          have hF6 := hF5.put_base _ hbase6 hT6
          have HF6 : Hid (FlashAt w6 X { fl0 C pg k with base := baseTo fd (R.take (j + 1)) }) := by rw [HSN.out]; exact hF6
          have HT6 : Hid (Turns A.foot w w6) := (HTj.out.trans (Turns.of_below H05.out)).trans_new hT6 (fun i hi => .inr (by have := HMB.out; omega))
          have HS6 : Hid (Turns (· = X.mb) w3 w6) := (HSj.out.trans (Turns.of_below H05.out)).trans hT6
          clear hF5 hbase6 hF6 hM6 hT6 hz6
          go_wp2_with fail
          refine ⟨⟨j + 1, by omega, ?_, HF6, HT6, HS6⟩, by simp [RowKit.intOf]; omega⟩
          first | rfl | (congr 1; done) | (congr 1; omega)
        · have e : j = R.length := by omega
          subst e
          have hF4 : FlashAt wr X { fl0 C pg k with base := baseOf fd } := by
            have := HFj.out
            rw [List.take_length, HRA.out] at this; exact this
          have HF4 := Lib.hid hF4
          clear hF4 hr
          have hlaw2 : ∀ W, Below wr.heap.size wr W → Calls Tryz.prog 65 #[ptr (w1.heap.size + 4), i64 (-1)] W fun e w' => (∃ v A' cap, e = .returned v ∧ v = .slice A' fd.length cap ∧ SlAt w' v fd.length ((fd.map Fnd.pt).flatMap PT.cells)) ∧ Below W.heap.size W w' := by
            intro W hW
            have hF := HF4.out.below hW
            obtain ⟨sl, hm, hs⟩ := hF.found
            have := list65 (C := (fl0 C pg k).C) (A := X.A) hF.hd (hF.row.cell0 6 rfl) (fl0 C pg k).fd sl hm (by have := HSO.out; rw [HFD.out] at this; exact this) (by have := hln; rw [HFD.out] at this; exact this) (fun x hx => (hs x hx).sl) (-1)
            have e1 : listOf (-1) (fl0 C pg k).fd = fd.map Fnd.pt := by have := HLI.out; rw [HFD.out] at this ⊢; exact this
            rw [e1, List.length_map] at this
            rw [HFR.out]; exact this
          have HLAW2 := Lib.hid hlaw2
          clear hlaw2
          go_wp2_with fail
          refine (HLAW2.out _ (Below.refl _ _)).mono ?_
          rintro e w7 ⟨⟨v, A7, cap7, rfl, rfl, hsl7⟩, hb7⟩
          have z7 := hb7.size
          have hst := stale66 (fd.map Fnd.pt) fd.length (by simp) A7 cap7 w7 hsl7 (by omega)
          have HST := Lib.hid hst
          clear hst hsl7
          go_wp2_with fail
          refine HST.out.mono ?_
          rintro e w8 ⟨⟨v, rfl, hown⟩, hb8⟩
          have z8 := hb8.size
          obtain ⟨S, hS⟩ : ∃ S, S = staleOf (lastOf (fd.map Fnd.pt)) (fd.map Fnd.pt) := ⟨_, rfl⟩
          rw [← hS] at hown
          have hSm : ∀ x ∈ S, x.tag.Ok := fun x hx => HPT.out x (by rw [hS] at hx; exact (List.mem_filter.1 hx).1)
          have hSl : S.length ≤ 1000 := by
            rw [hS]; have := List.length_filter_le (fun x : PT => decide (lastOf (fd.map Fnd.pt) < x.tag.epoch)) (fd.map Fnd.pt)
            unfold staleOf; simp at this ⊢; omega
          obtain ⟨hsl, A', cap', rfl⟩ := own_slat hown (by decide)
          obtain ⟨a0, c0', hv0, -, hr⟩ := hsl
          simp only [Value.slice.injEq] at hv0
          obtain ⟨rfl, -, rfl⟩ := hv0
          have hF8 : FlashAt w8 X { fl0 C pg k with base := baseOf fd } := (HF4.out.below hb7).below hb8
          have hTu8 : Turns A.foot w w8 := (HTj.out.trans (Turns.of_below hb7)).trans (Turns.of_below hb8)
          have HF8 : Hid (FlashAt w8 X { fl0 C pg k with base := baseOf fd, stale := staleF (S.take 0) }) := hF8
          have HTu8 := Lib.hid hTu8
          have HSM := Lib.hid hSm
          have HSS := Lib.hid hS
          clear hF8 hTu8 hSm hown hS HST HF3 HF4 HFj HTj HSj
          go_wp2_with fail
          go_loopw [115] (fun i wr => ∃ j : Nat, j ≤ S.length ∧ i = .int .i64 j ∧ Hid (FlashAt wr X { fl0 C pg k with base := baseOf fd, stale := staleF (S.take j) }) ∧ Hid (Turns A.foot w wr) ∧ Hid (Turns (· = X.ms) w8 wr)) (fun i _ => S.length - (RowKit.intOf i).toNat)
          case atStart => exact ⟨0, Nat.zero_le _, rfl, HF8, HTu8, Lib.hid (Turns.refl _ _)⟩
          case round =>
            obtain ⟨j, hj, rfl, HFj, HTj, HSj⟩ := hrel
            have hzj := HSj.out.size
            have j0 : (0 : Int) ≤ (j : Int) := by omega
            have hkw : IntKind.i64.wrap ((j : Int) + 1) = ((j + 1 : Nat) : Int) := by rw [IntWalk.i64_in _ (by omega)]; omega
            by_cases hlt' : j < S.length
            · obtain ⟨x, hx⟩ : ∃ x, S[j]? = some x := ⟨S[j], List.getElem?_eq_getElem hlt'⟩
              have hxok := HSM.out x (List.mem_of_getElem? hx)
              obtain hr | ⟨vb, off, rfl, hr⟩ := hr
              · exfalso
                have := flat_get PT.cells 6 (fun _ => rfl) S j 0 x _ hx rfl
                rw [hr] at this; simp at this
              have hvbne : vb ≠ X.ms := by
                intro e0
                have h1 := (hr 0 _ (by have := flat_get PT.cells 6 (fun _ => rfl) S 0 0 (S[0]'(by omega)) _ (List.getElem?_eq_getElem _) rfl; simpa using this)).1
                obtain ⟨l, hm, _⟩ := HF8.out.stale
                obtain ⟨es, ck, hh, _⟩ := hm
                rw [e0] at h1
                simp only [World.cell?] at h1
                rw [show w8.heap[X.ms]? = some (.map es ck) from hh] at h1
                cases h1
              have hrow := (hr.elem 6 (fun _ => rfl) hx).turns HSj.out hvbne
              have c0 : wr.cell? ⟨vb, off + j * 6, none⟩ = some (i64 x.at_.b) := hrow.cell 0 rfl
              have c1 : wr.cell? ⟨vb, off + j * 6 + 1, none⟩ = some (i64 x.at_.p) := hrow.cell 1 rfl
              have c2 : wr.cell? ⟨vb, off + j * 6 + 2, none⟩ = some (i64 x.tag.kind) := hrow.cell 2 rfl
              have c3 : wr.cell? ⟨vb, off + j * 6 + 3, none⟩ = some (i64 x.tag.page) := hrow.cell 3 rfl
              have c4 : wr.cell? ⟨vb, off + j * 6 + 4, none⟩ = some (i64 x.tag.seq) := hrow.cell 4 rfl
              have c5 : wr.cell? ⟨vb, off + j * 6 + 5, none⟩ = some (i64 x.tag.epoch) := hrow.cell 5 rfl
              have hvb := World.block_lt_of_cell? _ _ c0
              have hF := HFj.out
              have hsn := staleF_snoc hx
              have hok : ok64 x.tag.page := by have p0 := hxok.p0; have p1 := hxok.p1; simp only [ok64]; omega
              have k9 : wr.cell? ⟨w1.heap.size + 4, 9, none⟩ = some (.map (some X.ms)) := by rw [HFR.out]; exact hF.row.cell0 9 rfl
              have lf2 : w1.heap.size + 4 < wr.heap.size := by rw [HFR.out]; exact hF.f_lt
              have lf3 : w1.heap.size + 4 < wr.heap.size + 1 := by omega
              have nf3 : w1.heap.size + 4 ≠ wr.heap.size := by omega
              have hg := hF.stale
              have HG := Lib.hid hg
              have HOKX := Lib.hid hok
              clear hr hrow hx hF hxok hg hok
              by_cases hk3 : x.tag.kind = 3
              · have q1 : (x.tag.kind == 3) = true := by simpa using hk3
                have q2 : (x.tag.kind != 3) = false := by simpa using hk3
                rw [if_pos hk3] at hsn
                have HSN := Lib.hid hsn
                clear hk3 hsn
                go_wp2_with fail
                have b1 : Below wr.heap.size wr (wr.alloc (.cells x.cells.toArray 114)) := (Below.refl _ _).alloc (Nat.le_refl _) _
                have hF2 := HFj.out.below b1
                refine ⟨⟨j + 1, by omega, ?_, ?_, HTj.out.alloc _, HSj.out.alloc _⟩, by simp [RowKit.intOf]; omega⟩
                · first | rfl | (congr 1; done) | (congr 1; omega)
                · exact ⟨hF2.chip, hF2.row, hF2.found, hF2.base, hF2.pend, by rw [HSN.out]; exact hF2.stale, hF2.sep⟩
              · have q1 : (x.tag.kind == 3) = false := by simpa using hk3
                have q2 : (x.tag.kind != 3) = true := by simpa using hk3
                rw [if_neg hk3] at hsn
                have HSN := Lib.hid hsn
                clear hk3 hsn
                go_wp2_with fail
                refine wp_region_keep 7 (fun wJ => Below ((wr.alloc (.cells x.cells.toArray 114))).heap.size ((wr.alloc (.cells x.cells.toArray 114))) wJ) (by kernel_rfl) (by kernel_rfl) (by (repeat (first | exact Below.refl _ _ | assumption | (with_reducible refine Below.drew ?_) | (with_reducible refine below_drewN' ?_ _) | (with_reducible refine ext_alloc ?_ ?_; · (first | omega | (simp only [World.size_alloc, World.size_setCell, World.size_drew, World.heap_drewN]; omega) | (simp; omega))) | (with_reducible refine ext_setCell ?_ ?_; · (first | omega | (simp only [World.size_alloc, World.size_setCell, World.size_drew, World.heap_drewN]; omega) | (simp; omega))) | (refine ext_call (by assumption) ?_ ?_; · (first | omega | (simp only [World.size_alloc, World.size_setCell, World.size_drew, World.heap_drewN]; omega) | (simp; omega)))))) ?_
                simp only [List.take_succ_cons, List.take_zero, List.drop_succ_cons, List.drop_zero]
                iterate 7 (apply keep_yes; (· rfl); (· (intro w' hJ; (try obtain ⟨hc', hf'⟩ := bcell hJ); refine gives_of (by (go_simp; rfl)) rfl hJ)); simp only [Act.put, List.setIfInBounds_toArray, List.set_cons_zero, List.set_cons_succ])
                refine keep_nil ?_
                intro w5 hJ5
                have h05 : Below wr.heap.size wr w5 := ext_call hJ5 (by simp) ((Below.refl _ _).alloc (Nat.le_refl _) _)
                have z5 := h05.size
                have H05 := Lib.hid h05
                go_wp2_with (at_mapUpdate; refine stopT ?_)
                unfold Go.RowKit.Hid
                apply wpl_put HG.out keysI Tryz.underlying99 x.tag.page HOKX.out (.bool true)
                · exact H05.out
                · rfl
                · rfl
                · rfl
                · rfl
                · rfl
                intro w6 hM6 hT6 hz6
                have hF6 := (HFj.out.below H05.out).put_stale (staleF (S.take (j + 1))) (by rw [HSN.out]; exact hM6) hT6
                have HF6 := Lib.hid hF6
                have HT6 : Hid (Turns A.foot w w6) := (HTj.out.trans (Turns.of_below H05.out)).trans_new hT6 (fun i hi => .inr (by have := HMS.out; omega))
                have HS6 : Hid (Turns (· = X.ms) w8 w6) := (HSj.out.trans (Turns.of_below H05.out)).trans hT6
                clear hF6 hM6 hT6 hz6
                go_wp2_with fail
                refine ⟨⟨j + 1, by omega, ?_, HF6, HT6, HS6⟩, by simp [RowKit.intOf]; omega⟩
                first | rfl | (congr 1; done) | (congr 1; omega)
            · have e : j = S.length := by omega
              subst e
              have hFe : FlashAt wr X (mounted C pg k) := by
                have := HFj.out
                rw [List.take_length, HSS.out, HFD.out] at this; exact this
              have HFE := Lib.hid hFe
              have hw : ∀ W, Below wr.heap.size wr W → Calls Tryz.prog 67 #[ptr (w1.heap.size + 4)] W fun e w' => e = .returned (i64 0) ∧ Below W.heap.size W w' := fun W hW => by
                have := worn67_no (HFE.out.below hW).hd (by
                  have e1 : (mounted C pg k).C.lost = C.lost := rfl
                  rw [e1]; exact hl)
                rw [HFR.out]; exact this
              have HW := Lib.hid hw
              clear hFe hw
              go_wp2_with fail
              refine (HW.out _ (Below.refl _ _)).mono ?_
              rintro e w9 ⟨rfl, hb9⟩
              go_wp2_with fail
              go_ret2
              refine ⟨X, by rw [← HFR.out]; rfl, ?_, ?_, HFE.out.below hb9, HTj.out.trans (Turns.of_below hb9)⟩
              · rw [← HX.out]
              · intro i hi
                have e0 := HX.out
                subst e0
                rcases hi with hi | hi | hi | hi | hi | hi
                · exact .inl hi
                all_goals (right; simp only at hi; omega)
end Go.Proofs.YthghhcnpbehaiaaGreat
