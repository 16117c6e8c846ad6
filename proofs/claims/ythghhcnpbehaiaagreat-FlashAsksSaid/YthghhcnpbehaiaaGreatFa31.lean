/- The flash: puts. (Printed by genputs.py.) -/
import Derived.Test.YthghhcnpbehaiaaGreatFa28
import Derived.Test.YthghhcnpbehaiaaGreatFa30

namespace Go.Proofs.YthghhcnpbehaiaaGreat
open Go.RowKit

def zerosY (g : Geo) : List Int := List.replicate g.Y.toNat 0
/-- What is put of a page, if anything is: its kind and bytes. -/
def putWhat (g : Geo) (po : Option (Option (List Int))) (bo : Option (List Int)) (st : Bool) : Option (Int × List Int) :=
  match po with
  | some (some d) => some (1, d)
  | some none => if st || bo.isSome then some (2, zerosY g) else none
  | none => if st then (match bo with | some d => some (1, d) | none => some (2, zerosY g)) else none
/-- What put does. -/
def PutRel (F : Fl) (t : Tag) (d : List Int) (F' : Fl) : Prop := ∃ o b, F.C.goes = some o ∧ ProgOk F ⟨o, F.C.usedOf o⟩ b (t.at F.now) d ∧ F' = F.prog ⟨o, F.C.usedOf o⟩ b (t.at F.now) d
def PutsStep (F : Fl) (n : Nat) (F' : Fl) : Prop := match putWhat F.C.g (F.pend n) (F.base n) (F.stale n) with
  | none => F' = F
  | some (k, d) => PutRel F ⟨k, n, 0, 0⟩ d F'

theorem MapF.not_cells {α : Type} [DecidableEq α] {w : World} {mk : α → Value} {ok : α → Prop} {b : Nat} {f : α → Option Value} (h : MapF w mk ok b f) : ∀ i, w.cell? ⟨b, i, none⟩ = none := by
  obtain ⟨l, ⟨es, ck, hh, _⟩, _⟩ := h
  intro i
  simp only [World.cell?, hh]

theorem putrel_call {w : World} {X : FA} {F F' : Fl} {t : Tag} {d : List Int} (hr : PutRel F t d F') (h : FlashAt w X F) (v : Value) (hv : BytesAt X.mut w v d) :
    Calls Tryz.prog 119 #[ptr X.f, .agg #[i64 t.kind, i64 t.page, i64 t.seq, i64 t.epoch], v] w fun e w' => e = .returned (i64 0) ∧ FlashAt w' X F' ∧ Turns X.mut w w' := by
  obtain ⟨o, b, ho, hok, rfl⟩ := hr
  exact put119 h t d v hv o ho b hok
theorem PutsStep.g {F F' : Fl} {n : Nat} (h : PutsStep F n F') : F'.C.g = F.C.g := by
  unfold PutsStep at h
  split at h
  · rw [h]
  · obtain ⟨o, b, _, _, rfl⟩ := h; rfl

theorem zeros_row (w : World) (n : Nat) : Row (w.alloc (.cells (Array.replicate n (u8 0)) 5)) w.heap.size 0 ((List.replicate n (0 : Int)).map u8) := by
  have := Row.new w (Array.replicate n (u8 0)) 5
  simpa using this

set_option maxHeartbeats 2000000 in
set_option maxRecDepth 100000 in
theorem puts72 {w : World} {X : FA} (Fs : Nat → Fl) (F' : Fl) (h : FlashAt w X (Fs 0)) (N : Nat) (hN : (N : Int) = (Fs 0).C.g.B * (Fs 0).C.g.P) (hst : ∀ n, n < N → PutsStep (Fs n) n (Fs (n + 1))) (hlast : PutRel (Fs N) ⟨3, 0, 0, 0⟩ (zerosY (Fs 0).C.g) F') :
    Calls Tryz.prog 72 #[ptr X.f] w fun e w' => e = .returned (i64 0) ∧ FlashAt w' X F' ∧ Turns X.mut w w' := by
  have hgo := (Geo.ok_iff _).1 h.chip.ok
  have y1 := hgo.y1; have y2 := hgo.y2
  have b1 := hgo.b1; have b2 := hgo.b2; have p1 := hgo.p1; have p2 := hgo.p2
  have hN1 : N ≤ 160 := by have := (geo0 h.chip).2; omega
  have hmul : IntKind.i64.wrap ((Fs 0).C.g.B * (Fs 0).C.g.P) = (N : Int) := by rw [← hN]; exact IntWalk.i64_in _ (by omega)
  have hgs : ∀ n, n ≤ N → (Fs n).C.g = (Fs 0).C.g := by
    intro n
    induction n with
    | zero => intro _; rfl
    | succ n ih => intro hn; rw [(hst n (by omega)).g, ih (by omega)]
  obtain ⟨Y, hY⟩ : ∃ Y : Nat, (Y : Int) = (Fs 0).C.g.Y := ⟨(Fs 0).C.g.Y.toNat, by omega⟩
  have hz : zerosY (Fs 0).C.g = List.replicate Y 0 := by unfold zerosY; rw [← hY]; rfl
  rw [hz] at hlast
  have c1 := h.row.cell0 1 rfl
  have c2 := h.row.cell0 2 rfl
  have c3 := h.row.cell0 3 rfl
  rw [← hY] at c3
  have lf := h.f_lt
  have hmk := make37 Y (by omega)
  have Y0 : (0 : Int) ≤ (Y : Int) := by omega
  have HH := Lib.hid h
  have HN := Lib.hid hN
  have HST := Lib.hid hst
  have HLA := Lib.hid hlast
  have HGS := Lib.hid hgs
  have HY := Lib.hid hY
  have HZ := Lib.hid hz
  have hY1 : 24 ≤ Y ∧ Y ≤ 64 := by omega
  clear h hN hst hlast hgo hgs hY hz y1 y2
  have hnl := Lib.run_eql_slice_nil (P := Tryz.prog)
  go_enter Tryz.func72, Tryz.ntmps72
  go_wp2_with fail
  go_quiet (fail)
  have hbW : Below w.heap.size w ((w.alloc (.cells (Array.replicate Y (u8 0)) 5)).drewN nq) := below_drewN' ((Below.refl _ _).alloc (Nat.le_refl _) _) nq
  have hzr : Row ((w.alloc (.cells (Array.replicate Y (u8 0)) 5)).drewN nq) w.heap.size 0 ((List.replicate Y (0 : Int)).map u8) := (zeros_row w Y).below (below_drewN' (Below.refl _ _) nq)
  have hnz : ¬ X.mut w.heap.size := fun hk => by have := HH.out.mut_lt hk; omega
  have hzb : BytesAt X.mut ((w.alloc (.cells (Array.replicate Y (u8 0)) 5)).drewN nq) (.slice (some ⟨w.heap.size, 0, none⟩) Y Y) (List.replicate Y 0) :=
    ⟨w.heap.size, 0, Y, by simp, by simp, hnz, hzr, by intro e; have := congrArg List.length e; simp at this; omega⟩
  have hF0 := HH.out.below hbW
  generalize (w.alloc (.cells (Array.replicate Y (u8 0)) 5)).drewN nq = W at *
  have HF0 := Lib.hid hF0
  have HZB := Lib.hid hzb
  have HT0 : Hid (Turns X.mut w W) := Turns.of_below hbW
  clear hF0 hzb hzr hbW c1 c2 c3
  go_wp2_with fail
  go_loopw [28] (fun i wr => ∃ n : Nat, n ≤ N ∧ i = .int .i64 n ∧ Hid (FlashAt wr X (Fs n)) ∧ Hid (Turns X.mut w wr) ∧ Hid (BytesAt X.mut wr (.slice (some ⟨w.heap.size, 0, none⟩) Y Y) (List.replicate Y 0))) (fun i _ => N - (RowKit.intOf i).toNat)
  case atStart => exact ⟨0, Nat.zero_le _, rfl, HF0, HT0, HZB⟩
  case round =>
    obtain ⟨n, hn, rfl, HF, HT, HZr⟩ := hrel
    have n0 : (0 : Int) ≤ (n : Int) := by omega
    have hnw : IntKind.i64.wrap ((n : Int) + 1) = ((n + 1 : Nat) : Int) := by rw [IntWalk.i64_in _ (by omega)]; omega
    by_cases hlt : n < N
    · have hstep := HST.out n hlt
      have hgn := HGS.out n (by omega)
      unfold PutsStep at hstep
      rw [hgn] at hstep
      have hF := HF.out
      have c7 : wr.cell? ⟨X.f, 7, none⟩ = some (.map (some X.mb)) := hF.row.cell0 7 rfl
      have c8 : wr.cell? ⟨X.f, 8, none⟩ = some (.map (some X.mp)) := hF.row.cell0 8 rfl
      have c9 : wr.cell? ⟨X.f, 9, none⟩ = some (.map (some X.ms)) := hF.row.cell0 9 rfl
      have lfr := hF.f_lt
      have nfr : X.f ≠ wr.heap.size := by omega
      have lfr1 : X.f < wr.heap.size + 1 := by omega
      obtain ⟨l, hm, hok, hp, -⟩ := hF.pend
      obtain ⟨g, hg, hb⟩ := hF.base
      have hms := hF.stale
      have hpn := hp n
      have hbn := hb n
      have HMP : Hid (MapF wr i64 ok64 X.mp (look l)) := ⟨l, hm, rfl, hok⟩
      have HG := Lib.hid hg
      have HMS := Lib.hid hms
      have hnk : ok64 (n : Int) := by simp only [ok64]; omega
      have HNK := Lib.hid hnk
      clear hm hok hp hg hb hms hnk hF
      have tok1 : True := trivial
      generalize hpo : (Fs n).pend n = po at *
      generalize hbo : (Fs n).base n = bo at *
      have hst1 : ∀ s, (Fs n).stale n = s → (staleV (Fs n).stale n).getD (.bool false) = .bool s := fun s hs => by simp only [staleV, hs]; cases s <;> rfl
      cases po with
      | none =>
        have hl : look l n = none := by
          cases hl : look l n with
          | none => rfl
          | some v => rw [hl] at hpn; simp only [Opt2At] at hpn
        have HL := Lib.hid hl
        clear hl hpn hpo hbo
        cases bo with
        | none =>
          have hgn2 : g n = none := by
            cases hgn2 : g n with
            | none => rfl
            | some v => rw [hgn2] at hbn; simp only [OptAt] at hbn
          have HGN := Lib.hid hgn2
          clear hgn2 hbn
          cases hs : (Fs n).stale n
          · skip
            have HSV := Lib.hid (hst1 false hs)
            have he : Fs (n + 1) = Fs n := by rw [hs] at hstep; exact hstep
            have HE := Lib.hid he
            clear hstep he hs hst1
            go_wp2_with (first | (at_lookup; have _t := tok1; (apply wpl_look_none HMP.out keysI Tryz.underlying98 Tryz.zeroValue37 (n : Int) HNK.out HL.out; (· (repeat (first | exact Below.refl _ _ | assumption | (with_reducible refine Below.drew ?_) | (with_reducible refine below_drewN' ?_ _) | (with_reducible refine ext_alloc ?_ ?_; · (first | omega | (simp only [World.size_alloc, World.size_setCell, World.size_drew, World.heap_drewN]; omega) | (simp; omega))) | (with_reducible refine ext_setCell ?_ ?_; · (first | omega | (simp only [World.size_alloc, World.size_setCell, World.size_drew, World.heap_drewN]; omega) | (simp; omega))) | (refine ext_call (by assumption) ?_ ?_; · (first | omega | (simp only [World.size_alloc, World.size_setCell, World.size_drew, World.heap_drewN]; omega) | (simp; omega)))))); (· rfl); (· rfl); (· rfl); (· rfl)); clear tok1) | (at_lookup; (apply wpl_look_none HG.out keysI Tryz.underlying98 Tryz.zeroValue37 (n : Int) HNK.out HGN.out; (· (repeat (first | exact Below.refl _ _ | assumption | (with_reducible refine Below.drew ?_) | (with_reducible refine below_drewN' ?_ _) | (with_reducible refine ext_alloc ?_ ?_; · (first | omega | (simp only [World.size_alloc, World.size_setCell, World.size_drew, World.heap_drewN]; omega) | (simp; omega))) | (with_reducible refine ext_setCell ?_ ?_; · (first | omega | (simp only [World.size_alloc, World.size_setCell, World.size_drew, World.heap_drewN]; omega) | (simp; omega))) | (refine ext_call (by assumption) ?_ ?_; · (first | omega | (simp only [World.size_alloc, World.size_setCell, World.size_drew, World.heap_drewN]; omega) | (simp; omega)))))); (· rfl); (· rfl); (· rfl); (· rfl))) | (at_lookup; (apply wpl_look1 HMS.out keysI Tryz.underlying99 Tryz.zeroValue4 (n : Int) HNK.out HSV.out; (· (repeat (first | exact Below.refl _ _ | assumption | (with_reducible refine Below.drew ?_) | (with_reducible refine below_drewN' ?_ _) | (with_reducible refine ext_alloc ?_ ?_; · (first | omega | (simp only [World.size_alloc, World.size_setCell, World.size_drew, World.heap_drewN]; omega) | (simp; omega))) | (with_reducible refine ext_setCell ?_ ?_; · (first | omega | (simp only [World.size_alloc, World.size_setCell, World.size_drew, World.heap_drewN]; omega) | (simp; omega))) | (refine ext_call (by assumption) ?_ ?_; · (first | omega | (simp only [World.size_alloc, World.size_setCell, World.size_drew, World.heap_drewN]; omega) | (simp; omega)))))); (· rfl); (· rfl); (· rfl); (· rfl))))
            refine ⟨⟨n + 1, by omega, ?_, by rw [HE.out]; exact HF.out.below (by (repeat (first | exact Below.refl _ _ | assumption | (with_reducible refine Below.drew ?_) | (with_reducible refine below_drewN' ?_ _) | (with_reducible refine ext_alloc ?_ ?_; · (first | omega | (simp only [World.size_alloc, World.size_setCell, World.size_drew, World.heap_drewN]; omega) | (simp; omega))) | (with_reducible refine ext_setCell ?_ ?_; · (first | omega | (simp only [World.size_alloc, World.size_setCell, World.size_drew, World.heap_drewN]; omega) | (simp; omega))) | (refine ext_call (by assumption) ?_ ?_; · (first | omega | (simp only [World.size_alloc, World.size_setCell, World.size_drew, World.heap_drewN]; omega) | (simp; omega)))))), HT.out.alloc _, HZr.out.below (by (repeat (first | exact Below.refl _ _ | assumption | (with_reducible refine Below.drew ?_) | (with_reducible refine below_drewN' ?_ _) | (with_reducible refine ext_alloc ?_ ?_; · (first | omega | (simp only [World.size_alloc, World.size_setCell, World.size_drew, World.heap_drewN]; omega) | (simp; omega))) | (with_reducible refine ext_setCell ?_ ?_; · (first | omega | (simp only [World.size_alloc, World.size_setCell, World.size_drew, World.heap_drewN]; omega) | (simp; omega))) | (refine ext_call (by assumption) ?_ ?_; · (first | omega | (simp only [World.size_alloc, World.size_setCell, World.size_drew, World.heap_drewN]; omega) | (simp; omega))))))⟩, by simp [RowKit.intOf]; omega⟩
            first | rfl | (congr 1; done) | (congr 1; omega)
          · skip
            have HSV := Lib.hid (hst1 true hs)
            have hput : PutRel (Fs n) ⟨2, n, 0, 0⟩ (List.replicate Y 0) (Fs (n + 1)) := by
              have hz := HZ.out
              rw [hs] at hstep; rw [← hz]; exact hstep
            have HPUT := Lib.hid hput
            clear hstep hput hs hst1
            go_wp2_with (first | (at_lookup; have _t := tok1; (apply wpl_look_none HMP.out keysI Tryz.underlying98 Tryz.zeroValue37 (n : Int) HNK.out HL.out; (· (repeat (first | exact Below.refl _ _ | assumption | (with_reducible refine Below.drew ?_) | (with_reducible refine below_drewN' ?_ _) | (with_reducible refine ext_alloc ?_ ?_; · (first | omega | (simp only [World.size_alloc, World.size_setCell, World.size_drew, World.heap_drewN]; omega) | (simp; omega))) | (with_reducible refine ext_setCell ?_ ?_; · (first | omega | (simp only [World.size_alloc, World.size_setCell, World.size_drew, World.heap_drewN]; omega) | (simp; omega))) | (refine ext_call (by assumption) ?_ ?_; · (first | omega | (simp only [World.size_alloc, World.size_setCell, World.size_drew, World.heap_drewN]; omega) | (simp; omega)))))); (· rfl); (· rfl); (· rfl); (· rfl)); clear tok1) | (at_lookup; (apply wpl_look_none HG.out keysI Tryz.underlying98 Tryz.zeroValue37 (n : Int) HNK.out HGN.out; (· (repeat (first | exact Below.refl _ _ | assumption | (with_reducible refine Below.drew ?_) | (with_reducible refine below_drewN' ?_ _) | (with_reducible refine ext_alloc ?_ ?_; · (first | omega | (simp only [World.size_alloc, World.size_setCell, World.size_drew, World.heap_drewN]; omega) | (simp; omega))) | (with_reducible refine ext_setCell ?_ ?_; · (first | omega | (simp only [World.size_alloc, World.size_setCell, World.size_drew, World.heap_drewN]; omega) | (simp; omega))) | (refine ext_call (by assumption) ?_ ?_; · (first | omega | (simp only [World.size_alloc, World.size_setCell, World.size_drew, World.heap_drewN]; omega) | (simp; omega)))))); (· rfl); (· rfl); (· rfl); (· rfl))) | (at_lookup; (apply wpl_look1 HMS.out keysI Tryz.underlying99 Tryz.zeroValue4 (n : Int) HNK.out HSV.out; (· (repeat (first | exact Below.refl _ _ | assumption | (with_reducible refine Below.drew ?_) | (with_reducible refine below_drewN' ?_ _) | (with_reducible refine ext_alloc ?_ ?_; · (first | omega | (simp only [World.size_alloc, World.size_setCell, World.size_drew, World.heap_drewN]; omega) | (simp; omega))) | (with_reducible refine ext_setCell ?_ ?_; · (first | omega | (simp only [World.size_alloc, World.size_setCell, World.size_drew, World.heap_drewN]; omega) | (simp; omega))) | (refine ext_call (by assumption) ?_ ?_; · (first | omega | (simp only [World.size_alloc, World.size_setCell, World.size_drew, World.heap_drewN]; omega) | (simp; omega)))))); (· rfl); (· rfl); (· rfl); (· rfl))))
            refine (putrel_call HPUT.out (HF.out.below (by (repeat (first | exact Below.refl _ _ | assumption | (with_reducible refine Below.drew ?_) | (with_reducible refine below_drewN' ?_ _) | (with_reducible refine ext_alloc ?_ ?_; · (first | omega | (simp only [World.size_alloc, World.size_setCell, World.size_drew, World.heap_drewN]; omega) | (simp; omega))) | (with_reducible refine ext_setCell ?_ ?_; · (first | omega | (simp only [World.size_alloc, World.size_setCell, World.size_drew, World.heap_drewN]; omega) | (simp; omega))) | (refine ext_call (by assumption) ?_ ?_; · (first | omega | (simp only [World.size_alloc, World.size_setCell, World.size_drew, World.heap_drewN]; omega) | (simp; omega))))))) _ (HZr.out.below (by (repeat (first | exact Below.refl _ _ | assumption | (with_reducible refine Below.drew ?_) | (with_reducible refine below_drewN' ?_ _) | (with_reducible refine ext_alloc ?_ ?_; · (first | omega | (simp only [World.size_alloc, World.size_setCell, World.size_drew, World.heap_drewN]; omega) | (simp; omega))) | (with_reducible refine ext_setCell ?_ ?_; · (first | omega | (simp only [World.size_alloc, World.size_setCell, World.size_drew, World.heap_drewN]; omega) | (simp; omega))) | (refine ext_call (by assumption) ?_ ?_; · (first | omega | (simp only [World.size_alloc, World.size_setCell, World.size_drew, World.heap_drewN]; omega) | (simp; omega)))))))).mono ?_
            rintro e w2 ⟨rfl, hF2, hT2⟩
            have HF2 := Lib.hid hF2
            have HT2 : Hid (Turns X.mut w w2) := (HT.out.alloc _).trans hT2
            have HZ2 : Hid (BytesAt X.mut w2 (.slice (some ⟨w.heap.size, 0, none⟩) Y Y) (List.replicate Y 0)) := (HZr.out.below ((Below.refl _ _).alloc (Nat.le_refl _) _)).turns hT2 (fun k _ hk => hk)
            clear hF2 hT2
            go_wp2_with fail
            refine ⟨⟨n + 1, by omega, ?_, HF2, HT2, HZ2⟩, by simp [RowKit.intOf]; omega⟩
            first | rfl | (congr 1; done) | (congr 1; omega)
        | some d2 =>
          cases hgn2 : g n with
          | none => rw [hgn2] at hbn; simp only [OptAt] at hbn
          | some v2 =>
            rw [hgn2] at hbn
            simp only [OptAt] at hbn
            obtain ⟨bb, bof, bc, rfl, q1, q2, q3, q4⟩ := hbn
            have HBB : Hid (BytesAt X.mut wr (.slice (some ⟨bb, bof, none⟩) d2.length bc) d2) := ⟨bb, bof, bc, rfl, q1, q2, q3, q4⟩
            have HGN := Lib.hid hgn2
            clear hgn2 q1 q2 q3 q4
            cases hs : (Fs n).stale n
            · skip
              have HSV := Lib.hid (hst1 false hs)
              have he : Fs (n + 1) = Fs n := by rw [hs] at hstep; exact hstep
              have HE := Lib.hid he
              clear hstep he hs hst1
              go_wp2_with (first | (at_lookup; have _t := tok1; (apply wpl_look_none HMP.out keysI Tryz.underlying98 Tryz.zeroValue37 (n : Int) HNK.out HL.out; (· (repeat (first | exact Below.refl _ _ | assumption | (with_reducible refine Below.drew ?_) | (with_reducible refine below_drewN' ?_ _) | (with_reducible refine ext_alloc ?_ ?_; · (first | omega | (simp only [World.size_alloc, World.size_setCell, World.size_drew, World.heap_drewN]; omega) | (simp; omega))) | (with_reducible refine ext_setCell ?_ ?_; · (first | omega | (simp only [World.size_alloc, World.size_setCell, World.size_drew, World.heap_drewN]; omega) | (simp; omega))) | (refine ext_call (by assumption) ?_ ?_; · (first | omega | (simp only [World.size_alloc, World.size_setCell, World.size_drew, World.heap_drewN]; omega) | (simp; omega)))))); (· rfl); (· rfl); (· rfl); (· rfl)); clear tok1) | (at_lookup; (apply wpl_look_some HG.out keysI Tryz.underlying98 Tryz.zeroValue37 (n : Int) HNK.out HGN.out; (· (repeat (first | exact Below.refl _ _ | assumption | (with_reducible refine Below.drew ?_) | (with_reducible refine below_drewN' ?_ _) | (with_reducible refine ext_alloc ?_ ?_; · (first | omega | (simp only [World.size_alloc, World.size_setCell, World.size_drew, World.heap_drewN]; omega) | (simp; omega))) | (with_reducible refine ext_setCell ?_ ?_; · (first | omega | (simp only [World.size_alloc, World.size_setCell, World.size_drew, World.heap_drewN]; omega) | (simp; omega))) | (refine ext_call (by assumption) ?_ ?_; · (first | omega | (simp only [World.size_alloc, World.size_setCell, World.size_drew, World.heap_drewN]; omega) | (simp; omega)))))); (· rfl); (· rfl); (· rfl); (· rfl))) | (at_lookup; (apply wpl_look1 HMS.out keysI Tryz.underlying99 Tryz.zeroValue4 (n : Int) HNK.out HSV.out; (· (repeat (first | exact Below.refl _ _ | assumption | (with_reducible refine Below.drew ?_) | (with_reducible refine below_drewN' ?_ _) | (with_reducible refine ext_alloc ?_ ?_; · (first | omega | (simp only [World.size_alloc, World.size_setCell, World.size_drew, World.heap_drewN]; omega) | (simp; omega))) | (with_reducible refine ext_setCell ?_ ?_; · (first | omega | (simp only [World.size_alloc, World.size_setCell, World.size_drew, World.heap_drewN]; omega) | (simp; omega))) | (refine ext_call (by assumption) ?_ ?_; · (first | omega | (simp only [World.size_alloc, World.size_setCell, World.size_drew, World.heap_drewN]; omega) | (simp; omega)))))); (· rfl); (· rfl); (· rfl); (· rfl))))
              refine ⟨⟨n + 1, by omega, ?_, by rw [HE.out]; exact HF.out.below (by (repeat (first | exact Below.refl _ _ | assumption | (with_reducible refine Below.drew ?_) | (with_reducible refine below_drewN' ?_ _) | (with_reducible refine ext_alloc ?_ ?_; · (first | omega | (simp only [World.size_alloc, World.size_setCell, World.size_drew, World.heap_drewN]; omega) | (simp; omega))) | (with_reducible refine ext_setCell ?_ ?_; · (first | omega | (simp only [World.size_alloc, World.size_setCell, World.size_drew, World.heap_drewN]; omega) | (simp; omega))) | (refine ext_call (by assumption) ?_ ?_; · (first | omega | (simp only [World.size_alloc, World.size_setCell, World.size_drew, World.heap_drewN]; omega) | (simp; omega)))))), HT.out.alloc _, HZr.out.below (by (repeat (first | exact Below.refl _ _ | assumption | (with_reducible refine Below.drew ?_) | (with_reducible refine below_drewN' ?_ _) | (with_reducible refine ext_alloc ?_ ?_; · (first | omega | (simp only [World.size_alloc, World.size_setCell, World.size_drew, World.heap_drewN]; omega) | (simp; omega))) | (with_reducible refine ext_setCell ?_ ?_; · (first | omega | (simp only [World.size_alloc, World.size_setCell, World.size_drew, World.heap_drewN]; omega) | (simp; omega))) | (refine ext_call (by assumption) ?_ ?_; · (first | omega | (simp only [World.size_alloc, World.size_setCell, World.size_drew, World.heap_drewN]; omega) | (simp; omega))))))⟩, by simp [RowKit.intOf]; omega⟩
              first | rfl | (congr 1; done) | (congr 1; omega)
            · skip
              have HSV := Lib.hid (hst1 true hs)
              have hput : PutRel (Fs n) ⟨1, n, 0, 0⟩ d2 (Fs (n + 1)) := by
                rw [hs] at hstep; exact hstep
              have HPUT := Lib.hid hput
              clear hstep hput hs hst1
              go_wp2_with (first | (at_lookup; have _t := tok1; (apply wpl_look_none HMP.out keysI Tryz.underlying98 Tryz.zeroValue37 (n : Int) HNK.out HL.out; (· (repeat (first | exact Below.refl _ _ | assumption | (with_reducible refine Below.drew ?_) | (with_reducible refine below_drewN' ?_ _) | (with_reducible refine ext_alloc ?_ ?_; · (first | omega | (simp only [World.size_alloc, World.size_setCell, World.size_drew, World.heap_drewN]; omega) | (simp; omega))) | (with_reducible refine ext_setCell ?_ ?_; · (first | omega | (simp only [World.size_alloc, World.size_setCell, World.size_drew, World.heap_drewN]; omega) | (simp; omega))) | (refine ext_call (by assumption) ?_ ?_; · (first | omega | (simp only [World.size_alloc, World.size_setCell, World.size_drew, World.heap_drewN]; omega) | (simp; omega)))))); (· rfl); (· rfl); (· rfl); (· rfl)); clear tok1) | (at_lookup; (apply wpl_look_some HG.out keysI Tryz.underlying98 Tryz.zeroValue37 (n : Int) HNK.out HGN.out; (· (repeat (first | exact Below.refl _ _ | assumption | (with_reducible refine Below.drew ?_) | (with_reducible refine below_drewN' ?_ _) | (with_reducible refine ext_alloc ?_ ?_; · (first | omega | (simp only [World.size_alloc, World.size_setCell, World.size_drew, World.heap_drewN]; omega) | (simp; omega))) | (with_reducible refine ext_setCell ?_ ?_; · (first | omega | (simp only [World.size_alloc, World.size_setCell, World.size_drew, World.heap_drewN]; omega) | (simp; omega))) | (refine ext_call (by assumption) ?_ ?_; · (first | omega | (simp only [World.size_alloc, World.size_setCell, World.size_drew, World.heap_drewN]; omega) | (simp; omega)))))); (· rfl); (· rfl); (· rfl); (· rfl))) | (at_lookup; (apply wpl_look1 HMS.out keysI Tryz.underlying99 Tryz.zeroValue4 (n : Int) HNK.out HSV.out; (· (repeat (first | exact Below.refl _ _ | assumption | (with_reducible refine Below.drew ?_) | (with_reducible refine below_drewN' ?_ _) | (with_reducible refine ext_alloc ?_ ?_; · (first | omega | (simp only [World.size_alloc, World.size_setCell, World.size_drew, World.heap_drewN]; omega) | (simp; omega))) | (with_reducible refine ext_setCell ?_ ?_; · (first | omega | (simp only [World.size_alloc, World.size_setCell, World.size_drew, World.heap_drewN]; omega) | (simp; omega))) | (refine ext_call (by assumption) ?_ ?_; · (first | omega | (simp only [World.size_alloc, World.size_setCell, World.size_drew, World.heap_drewN]; omega) | (simp; omega)))))); (· rfl); (· rfl); (· rfl); (· rfl))))
              refine (putrel_call HPUT.out (HF.out.below (by (repeat (first | exact Below.refl _ _ | assumption | (with_reducible refine Below.drew ?_) | (with_reducible refine below_drewN' ?_ _) | (with_reducible refine ext_alloc ?_ ?_; · (first | omega | (simp only [World.size_alloc, World.size_setCell, World.size_drew, World.heap_drewN]; omega) | (simp; omega))) | (with_reducible refine ext_setCell ?_ ?_; · (first | omega | (simp only [World.size_alloc, World.size_setCell, World.size_drew, World.heap_drewN]; omega) | (simp; omega))) | (refine ext_call (by assumption) ?_ ?_; · (first | omega | (simp only [World.size_alloc, World.size_setCell, World.size_drew, World.heap_drewN]; omega) | (simp; omega))))))) _ (HBB.out.below (by (repeat (first | exact Below.refl _ _ | assumption | (with_reducible refine Below.drew ?_) | (with_reducible refine below_drewN' ?_ _) | (with_reducible refine ext_alloc ?_ ?_; · (first | omega | (simp only [World.size_alloc, World.size_setCell, World.size_drew, World.heap_drewN]; omega) | (simp; omega))) | (with_reducible refine ext_setCell ?_ ?_; · (first | omega | (simp only [World.size_alloc, World.size_setCell, World.size_drew, World.heap_drewN]; omega) | (simp; omega))) | (refine ext_call (by assumption) ?_ ?_; · (first | omega | (simp only [World.size_alloc, World.size_setCell, World.size_drew, World.heap_drewN]; omega) | (simp; omega)))))))).mono ?_
              rintro e w2 ⟨rfl, hF2, hT2⟩
              have HF2 := Lib.hid hF2
              have HT2 : Hid (Turns X.mut w w2) := (HT.out.alloc _).trans hT2
              have HZ2 : Hid (BytesAt X.mut w2 (.slice (some ⟨w.heap.size, 0, none⟩) Y Y) (List.replicate Y 0)) := (HZr.out.below ((Below.refl _ _).alloc (Nat.le_refl _) _)).turns hT2 (fun k _ hk => hk)
              clear hF2 hT2
              go_wp2_with fail
              refine ⟨⟨n + 1, by omega, ?_, HF2, HT2, HZ2⟩, by simp [RowKit.intOf]; omega⟩
              first | rfl | (congr 1; done) | (congr 1; omega)
      | some po =>
        cases hl : look l n with
        | none => rw [hl] at hpn; simp only [Opt2At] at hpn
        | some v =>
          rw [hl] at hpn
          have HL := Lib.hid hl
          cases po with
          | none =>
            simp only [Opt2At] at hpn
            subst hpn
            clear hl hpo hbo
            cases bo with
            | none =>
              have hgn2 : g n = none := by
                cases hgn2 : g n with
                | none => rfl
                | some v => rw [hgn2] at hbn; simp only [OptAt] at hbn
              have HGN := Lib.hid hgn2
              clear hgn2 hbn
              cases hs : (Fs n).stale n
              · skip
                have HSV := Lib.hid (hst1 false hs)
                have he : Fs (n + 1) = Fs n := by rw [hs] at hstep; exact hstep
                have HE := Lib.hid he
                clear hstep he hs hst1
                go_wp2_with (first | (at_lookup; have _t := tok1; (apply wpl_look_some HMP.out keysI Tryz.underlying98 Tryz.zeroValue37 (n : Int) HNK.out HL.out; (· (repeat (first | exact Below.refl _ _ | assumption | (with_reducible refine Below.drew ?_) | (with_reducible refine below_drewN' ?_ _) | (with_reducible refine ext_alloc ?_ ?_; · (first | omega | (simp only [World.size_alloc, World.size_setCell, World.size_drew, World.heap_drewN]; omega) | (simp; omega))) | (with_reducible refine ext_setCell ?_ ?_; · (first | omega | (simp only [World.size_alloc, World.size_setCell, World.size_drew, World.heap_drewN]; omega) | (simp; omega))) | (refine ext_call (by assumption) ?_ ?_; · (first | omega | (simp only [World.size_alloc, World.size_setCell, World.size_drew, World.heap_drewN]; omega) | (simp; omega)))))); (· rfl); (· rfl); (· rfl); (· rfl)); clear tok1) | (at_lookup; (apply wpl_look_none HG.out keysI Tryz.underlying98 Tryz.zeroValue37 (n : Int) HNK.out HGN.out; (· (repeat (first | exact Below.refl _ _ | assumption | (with_reducible refine Below.drew ?_) | (with_reducible refine below_drewN' ?_ _) | (with_reducible refine ext_alloc ?_ ?_; · (first | omega | (simp only [World.size_alloc, World.size_setCell, World.size_drew, World.heap_drewN]; omega) | (simp; omega))) | (with_reducible refine ext_setCell ?_ ?_; · (first | omega | (simp only [World.size_alloc, World.size_setCell, World.size_drew, World.heap_drewN]; omega) | (simp; omega))) | (refine ext_call (by assumption) ?_ ?_; · (first | omega | (simp only [World.size_alloc, World.size_setCell, World.size_drew, World.heap_drewN]; omega) | (simp; omega)))))); (· rfl); (· rfl); (· rfl); (· rfl))) | (at_lookup; (apply wpl_look1 HMS.out keysI Tryz.underlying99 Tryz.zeroValue4 (n : Int) HNK.out HSV.out; (· (repeat (first | exact Below.refl _ _ | assumption | (with_reducible refine Below.drew ?_) | (with_reducible refine below_drewN' ?_ _) | (with_reducible refine ext_alloc ?_ ?_; · (first | omega | (simp only [World.size_alloc, World.size_setCell, World.size_drew, World.heap_drewN]; omega) | (simp; omega))) | (with_reducible refine ext_setCell ?_ ?_; · (first | omega | (simp only [World.size_alloc, World.size_setCell, World.size_drew, World.heap_drewN]; omega) | (simp; omega))) | (refine ext_call (by assumption) ?_ ?_; · (first | omega | (simp only [World.size_alloc, World.size_setCell, World.size_drew, World.heap_drewN]; omega) | (simp; omega)))))); (· rfl); (· rfl); (· rfl); (· rfl))))
                refine ⟨⟨n + 1, by omega, ?_, by rw [HE.out]; exact HF.out.below (by (repeat (first | exact Below.refl _ _ | assumption | (with_reducible refine Below.drew ?_) | (with_reducible refine below_drewN' ?_ _) | (with_reducible refine ext_alloc ?_ ?_; · (first | omega | (simp only [World.size_alloc, World.size_setCell, World.size_drew, World.heap_drewN]; omega) | (simp; omega))) | (with_reducible refine ext_setCell ?_ ?_; · (first | omega | (simp only [World.size_alloc, World.size_setCell, World.size_drew, World.heap_drewN]; omega) | (simp; omega))) | (refine ext_call (by assumption) ?_ ?_; · (first | omega | (simp only [World.size_alloc, World.size_setCell, World.size_drew, World.heap_drewN]; omega) | (simp; omega)))))), HT.out.alloc _, HZr.out.below (by (repeat (first | exact Below.refl _ _ | assumption | (with_reducible refine Below.drew ?_) | (with_reducible refine below_drewN' ?_ _) | (with_reducible refine ext_alloc ?_ ?_; · (first | omega | (simp only [World.size_alloc, World.size_setCell, World.size_drew, World.heap_drewN]; omega) | (simp; omega))) | (with_reducible refine ext_setCell ?_ ?_; · (first | omega | (simp only [World.size_alloc, World.size_setCell, World.size_drew, World.heap_drewN]; omega) | (simp; omega))) | (refine ext_call (by assumption) ?_ ?_; · (first | omega | (simp only [World.size_alloc, World.size_setCell, World.size_drew, World.heap_drewN]; omega) | (simp; omega))))))⟩, by simp [RowKit.intOf]; omega⟩
                first | rfl | (congr 1; done) | (congr 1; omega)
              · skip
                have HSV := Lib.hid (hst1 true hs)
                have hput : PutRel (Fs n) ⟨2, n, 0, 0⟩ (List.replicate Y 0) (Fs (n + 1)) := by
                  have hz := HZ.out
                  rw [hs] at hstep; rw [← hz]; exact hstep
                have HPUT := Lib.hid hput
                clear hstep hput hs hst1
                go_wp2_with (first | (at_lookup; have _t := tok1; (apply wpl_look_some HMP.out keysI Tryz.underlying98 Tryz.zeroValue37 (n : Int) HNK.out HL.out; (· (repeat (first | exact Below.refl _ _ | assumption | (with_reducible refine Below.drew ?_) | (with_reducible refine below_drewN' ?_ _) | (with_reducible refine ext_alloc ?_ ?_; · (first | omega | (simp only [World.size_alloc, World.size_setCell, World.size_drew, World.heap_drewN]; omega) | (simp; omega))) | (with_reducible refine ext_setCell ?_ ?_; · (first | omega | (simp only [World.size_alloc, World.size_setCell, World.size_drew, World.heap_drewN]; omega) | (simp; omega))) | (refine ext_call (by assumption) ?_ ?_; · (first | omega | (simp only [World.size_alloc, World.size_setCell, World.size_drew, World.heap_drewN]; omega) | (simp; omega)))))); (· rfl); (· rfl); (· rfl); (· rfl)); clear tok1) | (at_lookup; (apply wpl_look_none HG.out keysI Tryz.underlying98 Tryz.zeroValue37 (n : Int) HNK.out HGN.out; (· (repeat (first | exact Below.refl _ _ | assumption | (with_reducible refine Below.drew ?_) | (with_reducible refine below_drewN' ?_ _) | (with_reducible refine ext_alloc ?_ ?_; · (first | omega | (simp only [World.size_alloc, World.size_setCell, World.size_drew, World.heap_drewN]; omega) | (simp; omega))) | (with_reducible refine ext_setCell ?_ ?_; · (first | omega | (simp only [World.size_alloc, World.size_setCell, World.size_drew, World.heap_drewN]; omega) | (simp; omega))) | (refine ext_call (by assumption) ?_ ?_; · (first | omega | (simp only [World.size_alloc, World.size_setCell, World.size_drew, World.heap_drewN]; omega) | (simp; omega)))))); (· rfl); (· rfl); (· rfl); (· rfl))) | (at_lookup; (apply wpl_look1 HMS.out keysI Tryz.underlying99 Tryz.zeroValue4 (n : Int) HNK.out HSV.out; (· (repeat (first | exact Below.refl _ _ | assumption | (with_reducible refine Below.drew ?_) | (with_reducible refine below_drewN' ?_ _) | (with_reducible refine ext_alloc ?_ ?_; · (first | omega | (simp only [World.size_alloc, World.size_setCell, World.size_drew, World.heap_drewN]; omega) | (simp; omega))) | (with_reducible refine ext_setCell ?_ ?_; · (first | omega | (simp only [World.size_alloc, World.size_setCell, World.size_drew, World.heap_drewN]; omega) | (simp; omega))) | (refine ext_call (by assumption) ?_ ?_; · (first | omega | (simp only [World.size_alloc, World.size_setCell, World.size_drew, World.heap_drewN]; omega) | (simp; omega)))))); (· rfl); (· rfl); (· rfl); (· rfl))))
                refine (putrel_call HPUT.out (HF.out.below (by (repeat (first | exact Below.refl _ _ | assumption | (with_reducible refine Below.drew ?_) | (with_reducible refine below_drewN' ?_ _) | (with_reducible refine ext_alloc ?_ ?_; · (first | omega | (simp only [World.size_alloc, World.size_setCell, World.size_drew, World.heap_drewN]; omega) | (simp; omega))) | (with_reducible refine ext_setCell ?_ ?_; · (first | omega | (simp only [World.size_alloc, World.size_setCell, World.size_drew, World.heap_drewN]; omega) | (simp; omega))) | (refine ext_call (by assumption) ?_ ?_; · (first | omega | (simp only [World.size_alloc, World.size_setCell, World.size_drew, World.heap_drewN]; omega) | (simp; omega))))))) _ (HZr.out.below (by (repeat (first | exact Below.refl _ _ | assumption | (with_reducible refine Below.drew ?_) | (with_reducible refine below_drewN' ?_ _) | (with_reducible refine ext_alloc ?_ ?_; · (first | omega | (simp only [World.size_alloc, World.size_setCell, World.size_drew, World.heap_drewN]; omega) | (simp; omega))) | (with_reducible refine ext_setCell ?_ ?_; · (first | omega | (simp only [World.size_alloc, World.size_setCell, World.size_drew, World.heap_drewN]; omega) | (simp; omega))) | (refine ext_call (by assumption) ?_ ?_; · (first | omega | (simp only [World.size_alloc, World.size_setCell, World.size_drew, World.heap_drewN]; omega) | (simp; omega)))))))).mono ?_
                rintro e w2 ⟨rfl, hF2, hT2⟩
                have HF2 := Lib.hid hF2
                have HT2 : Hid (Turns X.mut w w2) := (HT.out.alloc _).trans hT2
                have HZ2 : Hid (BytesAt X.mut w2 (.slice (some ⟨w.heap.size, 0, none⟩) Y Y) (List.replicate Y 0)) := (HZr.out.below ((Below.refl _ _).alloc (Nat.le_refl _) _)).turns hT2 (fun k _ hk => hk)
                clear hF2 hT2
                go_wp2_with fail
                refine ⟨⟨n + 1, by omega, ?_, HF2, HT2, HZ2⟩, by simp [RowKit.intOf]; omega⟩
                first | rfl | (congr 1; done) | (congr 1; omega)
            | some d2 =>
              cases hgn2 : g n with
              | none => rw [hgn2] at hbn; simp only [OptAt] at hbn
              | some v2 =>
                rw [hgn2] at hbn
                simp only [OptAt] at hbn
                obtain ⟨bb, bof, bc, rfl, q1, q2, q3, q4⟩ := hbn
                have HBB : Hid (BytesAt X.mut wr (.slice (some ⟨bb, bof, none⟩) d2.length bc) d2) := ⟨bb, bof, bc, rfl, q1, q2, q3, q4⟩
                have HGN := Lib.hid hgn2
                clear hgn2 q1 q2 q3 q4
                cases hs : (Fs n).stale n
                · skip
                  have HSV := Lib.hid (hst1 false hs)
                  have hput : PutRel (Fs n) ⟨2, n, 0, 0⟩ (List.replicate Y 0) (Fs (n + 1)) := by
                    have hz := HZ.out
                    rw [hs] at hstep; rw [← hz]; exact hstep
                  have HPUT := Lib.hid hput
                  clear hstep hput hs hst1
                  go_wp2_with (first | (at_lookup; have _t := tok1; (apply wpl_look_some HMP.out keysI Tryz.underlying98 Tryz.zeroValue37 (n : Int) HNK.out HL.out; (· (repeat (first | exact Below.refl _ _ | assumption | (with_reducible refine Below.drew ?_) | (with_reducible refine below_drewN' ?_ _) | (with_reducible refine ext_alloc ?_ ?_; · (first | omega | (simp only [World.size_alloc, World.size_setCell, World.size_drew, World.heap_drewN]; omega) | (simp; omega))) | (with_reducible refine ext_setCell ?_ ?_; · (first | omega | (simp only [World.size_alloc, World.size_setCell, World.size_drew, World.heap_drewN]; omega) | (simp; omega))) | (refine ext_call (by assumption) ?_ ?_; · (first | omega | (simp only [World.size_alloc, World.size_setCell, World.size_drew, World.heap_drewN]; omega) | (simp; omega)))))); (· rfl); (· rfl); (· rfl); (· rfl)); clear tok1) | (at_lookup; (apply wpl_look_some HG.out keysI Tryz.underlying98 Tryz.zeroValue37 (n : Int) HNK.out HGN.out; (· (repeat (first | exact Below.refl _ _ | assumption | (with_reducible refine Below.drew ?_) | (with_reducible refine below_drewN' ?_ _) | (with_reducible refine ext_alloc ?_ ?_; · (first | omega | (simp only [World.size_alloc, World.size_setCell, World.size_drew, World.heap_drewN]; omega) | (simp; omega))) | (with_reducible refine ext_setCell ?_ ?_; · (first | omega | (simp only [World.size_alloc, World.size_setCell, World.size_drew, World.heap_drewN]; omega) | (simp; omega))) | (refine ext_call (by assumption) ?_ ?_; · (first | omega | (simp only [World.size_alloc, World.size_setCell, World.size_drew, World.heap_drewN]; omega) | (simp; omega)))))); (· rfl); (· rfl); (· rfl); (· rfl))) | (at_lookup; (apply wpl_look1 HMS.out keysI Tryz.underlying99 Tryz.zeroValue4 (n : Int) HNK.out HSV.out; (· (repeat (first | exact Below.refl _ _ | assumption | (with_reducible refine Below.drew ?_) | (with_reducible refine below_drewN' ?_ _) | (with_reducible refine ext_alloc ?_ ?_; · (first | omega | (simp only [World.size_alloc, World.size_setCell, World.size_drew, World.heap_drewN]; omega) | (simp; omega))) | (with_reducible refine ext_setCell ?_ ?_; · (first | omega | (simp only [World.size_alloc, World.size_setCell, World.size_drew, World.heap_drewN]; omega) | (simp; omega))) | (refine ext_call (by assumption) ?_ ?_; · (first | omega | (simp only [World.size_alloc, World.size_setCell, World.size_drew, World.heap_drewN]; omega) | (simp; omega)))))); (· rfl); (· rfl); (· rfl); (· rfl))))
                  refine (putrel_call HPUT.out (HF.out.below (by (repeat (first | exact Below.refl _ _ | assumption | (with_reducible refine Below.drew ?_) | (with_reducible refine below_drewN' ?_ _) | (with_reducible refine ext_alloc ?_ ?_; · (first | omega | (simp only [World.size_alloc, World.size_setCell, World.size_drew, World.heap_drewN]; omega) | (simp; omega))) | (with_reducible refine ext_setCell ?_ ?_; · (first | omega | (simp only [World.size_alloc, World.size_setCell, World.size_drew, World.heap_drewN]; omega) | (simp; omega))) | (refine ext_call (by assumption) ?_ ?_; · (first | omega | (simp only [World.size_alloc, World.size_setCell, World.size_drew, World.heap_drewN]; omega) | (simp; omega))))))) _ (HZr.out.below (by (repeat (first | exact Below.refl _ _ | assumption | (with_reducible refine Below.drew ?_) | (with_reducible refine below_drewN' ?_ _) | (with_reducible refine ext_alloc ?_ ?_; · (first | omega | (simp only [World.size_alloc, World.size_setCell, World.size_drew, World.heap_drewN]; omega) | (simp; omega))) | (with_reducible refine ext_setCell ?_ ?_; · (first | omega | (simp only [World.size_alloc, World.size_setCell, World.size_drew, World.heap_drewN]; omega) | (simp; omega))) | (refine ext_call (by assumption) ?_ ?_; · (first | omega | (simp only [World.size_alloc, World.size_setCell, World.size_drew, World.heap_drewN]; omega) | (simp; omega)))))))).mono ?_
                  rintro e w2 ⟨rfl, hF2, hT2⟩
                  have HF2 := Lib.hid hF2
                  have HT2 : Hid (Turns X.mut w w2) := (HT.out.alloc _).trans hT2
                  have HZ2 : Hid (BytesAt X.mut w2 (.slice (some ⟨w.heap.size, 0, none⟩) Y Y) (List.replicate Y 0)) := (HZr.out.below ((Below.refl _ _).alloc (Nat.le_refl _) _)).turns hT2 (fun k _ hk => hk)
                  clear hF2 hT2
                  go_wp2_with fail
                  refine ⟨⟨n + 1, by omega, ?_, HF2, HT2, HZ2⟩, by simp [RowKit.intOf]; omega⟩
                  first | rfl | (congr 1; done) | (congr 1; omega)
                · skip
                  have HSV := Lib.hid (hst1 true hs)
                  have hput : PutRel (Fs n) ⟨2, n, 0, 0⟩ (List.replicate Y 0) (Fs (n + 1)) := by
                    have hz := HZ.out
                    rw [hs] at hstep; rw [← hz]; exact hstep
                  have HPUT := Lib.hid hput
                  clear hstep hput hs hst1
                  go_wp2_with (first | (at_lookup; have _t := tok1; (apply wpl_look_some HMP.out keysI Tryz.underlying98 Tryz.zeroValue37 (n : Int) HNK.out HL.out; (· (repeat (first | exact Below.refl _ _ | assumption | (with_reducible refine Below.drew ?_) | (with_reducible refine below_drewN' ?_ _) | (with_reducible refine ext_alloc ?_ ?_; · (first | omega | (simp only [World.size_alloc, World.size_setCell, World.size_drew, World.heap_drewN]; omega) | (simp; omega))) | (with_reducible refine ext_setCell ?_ ?_; · (first | omega | (simp only [World.size_alloc, World.size_setCell, World.size_drew, World.heap_drewN]; omega) | (simp; omega))) | (refine ext_call (by assumption) ?_ ?_; · (first | omega | (simp only [World.size_alloc, World.size_setCell, World.size_drew, World.heap_drewN]; omega) | (simp; omega)))))); (· rfl); (· rfl); (· rfl); (· rfl)); clear tok1) | (at_lookup; (apply wpl_look_some HG.out keysI Tryz.underlying98 Tryz.zeroValue37 (n : Int) HNK.out HGN.out; (· (repeat (first | exact Below.refl _ _ | assumption | (with_reducible refine Below.drew ?_) | (with_reducible refine below_drewN' ?_ _) | (with_reducible refine ext_alloc ?_ ?_; · (first | omega | (simp only [World.size_alloc, World.size_setCell, World.size_drew, World.heap_drewN]; omega) | (simp; omega))) | (with_reducible refine ext_setCell ?_ ?_; · (first | omega | (simp only [World.size_alloc, World.size_setCell, World.size_drew, World.heap_drewN]; omega) | (simp; omega))) | (refine ext_call (by assumption) ?_ ?_; · (first | omega | (simp only [World.size_alloc, World.size_setCell, World.size_drew, World.heap_drewN]; omega) | (simp; omega)))))); (· rfl); (· rfl); (· rfl); (· rfl))) | (at_lookup; (apply wpl_look1 HMS.out keysI Tryz.underlying99 Tryz.zeroValue4 (n : Int) HNK.out HSV.out; (· (repeat (first | exact Below.refl _ _ | assumption | (with_reducible refine Below.drew ?_) | (with_reducible refine below_drewN' ?_ _) | (with_reducible refine ext_alloc ?_ ?_; · (first | omega | (simp only [World.size_alloc, World.size_setCell, World.size_drew, World.heap_drewN]; omega) | (simp; omega))) | (with_reducible refine ext_setCell ?_ ?_; · (first | omega | (simp only [World.size_alloc, World.size_setCell, World.size_drew, World.heap_drewN]; omega) | (simp; omega))) | (refine ext_call (by assumption) ?_ ?_; · (first | omega | (simp only [World.size_alloc, World.size_setCell, World.size_drew, World.heap_drewN]; omega) | (simp; omega)))))); (· rfl); (· rfl); (· rfl); (· rfl))))
                  refine (putrel_call HPUT.out (HF.out.below (by (repeat (first | exact Below.refl _ _ | assumption | (with_reducible refine Below.drew ?_) | (with_reducible refine below_drewN' ?_ _) | (with_reducible refine ext_alloc ?_ ?_; · (first | omega | (simp only [World.size_alloc, World.size_setCell, World.size_drew, World.heap_drewN]; omega) | (simp; omega))) | (with_reducible refine ext_setCell ?_ ?_; · (first | omega | (simp only [World.size_alloc, World.size_setCell, World.size_drew, World.heap_drewN]; omega) | (simp; omega))) | (refine ext_call (by assumption) ?_ ?_; · (first | omega | (simp only [World.size_alloc, World.size_setCell, World.size_drew, World.heap_drewN]; omega) | (simp; omega))))))) _ (HZr.out.below (by (repeat (first | exact Below.refl _ _ | assumption | (with_reducible refine Below.drew ?_) | (with_reducible refine below_drewN' ?_ _) | (with_reducible refine ext_alloc ?_ ?_; · (first | omega | (simp only [World.size_alloc, World.size_setCell, World.size_drew, World.heap_drewN]; omega) | (simp; omega))) | (with_reducible refine ext_setCell ?_ ?_; · (first | omega | (simp only [World.size_alloc, World.size_setCell, World.size_drew, World.heap_drewN]; omega) | (simp; omega))) | (refine ext_call (by assumption) ?_ ?_; · (first | omega | (simp only [World.size_alloc, World.size_setCell, World.size_drew, World.heap_drewN]; omega) | (simp; omega)))))))).mono ?_
                  rintro e w2 ⟨rfl, hF2, hT2⟩
                  have HF2 := Lib.hid hF2
                  have HT2 : Hid (Turns X.mut w w2) := (HT.out.alloc _).trans hT2
                  have HZ2 : Hid (BytesAt X.mut w2 (.slice (some ⟨w.heap.size, 0, none⟩) Y Y) (List.replicate Y 0)) := (HZr.out.below ((Below.refl _ _).alloc (Nat.le_refl _) _)).turns hT2 (fun k _ hk => hk)
                  clear hF2 hT2
                  go_wp2_with fail
                  refine ⟨⟨n + 1, by omega, ?_, HF2, HT2, HZ2⟩, by simp [RowKit.intOf]; omega⟩
                  first | rfl | (congr 1; done) | (congr 1; omega)
          | some d =>
            simp only [Opt2At] at hpn
            obtain ⟨pb, pof, pc, rfl, r1, r2, r3, r4⟩ := hpn
            have HPB : Hid (BytesAt X.mut wr (.slice (some ⟨pb, pof, none⟩) d.length pc) d) := ⟨pb, pof, pc, rfl, r1, r2, r3, r4⟩
            clear hl r1 r2 r3 r4 hpo hbo
            cases bo with
            | none =>
              have hgn2 : g n = none := by
                cases hgn2 : g n with
                | none => rfl
                | some v => rw [hgn2] at hbn; simp only [OptAt] at hbn
              have HGN := Lib.hid hgn2
              clear hgn2 hbn
              cases hs : (Fs n).stale n
              · skip
                have HSV := Lib.hid (hst1 false hs)
                have hput : PutRel (Fs n) ⟨1, n, 0, 0⟩ d (Fs (n + 1)) := by
                  rw [hs] at hstep; exact hstep
                have HPUT := Lib.hid hput
                clear hstep hput hs hst1
                go_wp2_with (first | (at_lookup; have _t := tok1; (apply wpl_look_some HMP.out keysI Tryz.underlying98 Tryz.zeroValue37 (n : Int) HNK.out HL.out; (· (repeat (first | exact Below.refl _ _ | assumption | (with_reducible refine Below.drew ?_) | (with_reducible refine below_drewN' ?_ _) | (with_reducible refine ext_alloc ?_ ?_; · (first | omega | (simp only [World.size_alloc, World.size_setCell, World.size_drew, World.heap_drewN]; omega) | (simp; omega))) | (with_reducible refine ext_setCell ?_ ?_; · (first | omega | (simp only [World.size_alloc, World.size_setCell, World.size_drew, World.heap_drewN]; omega) | (simp; omega))) | (refine ext_call (by assumption) ?_ ?_; · (first | omega | (simp only [World.size_alloc, World.size_setCell, World.size_drew, World.heap_drewN]; omega) | (simp; omega)))))); (· rfl); (· rfl); (· rfl); (· rfl)); clear tok1) | (at_lookup; (apply wpl_look_none HG.out keysI Tryz.underlying98 Tryz.zeroValue37 (n : Int) HNK.out HGN.out; (· (repeat (first | exact Below.refl _ _ | assumption | (with_reducible refine Below.drew ?_) | (with_reducible refine below_drewN' ?_ _) | (with_reducible refine ext_alloc ?_ ?_; · (first | omega | (simp only [World.size_alloc, World.size_setCell, World.size_drew, World.heap_drewN]; omega) | (simp; omega))) | (with_reducible refine ext_setCell ?_ ?_; · (first | omega | (simp only [World.size_alloc, World.size_setCell, World.size_drew, World.heap_drewN]; omega) | (simp; omega))) | (refine ext_call (by assumption) ?_ ?_; · (first | omega | (simp only [World.size_alloc, World.size_setCell, World.size_drew, World.heap_drewN]; omega) | (simp; omega)))))); (· rfl); (· rfl); (· rfl); (· rfl))) | (at_lookup; (apply wpl_look1 HMS.out keysI Tryz.underlying99 Tryz.zeroValue4 (n : Int) HNK.out HSV.out; (· (repeat (first | exact Below.refl _ _ | assumption | (with_reducible refine Below.drew ?_) | (with_reducible refine below_drewN' ?_ _) | (with_reducible refine ext_alloc ?_ ?_; · (first | omega | (simp only [World.size_alloc, World.size_setCell, World.size_drew, World.heap_drewN]; omega) | (simp; omega))) | (with_reducible refine ext_setCell ?_ ?_; · (first | omega | (simp only [World.size_alloc, World.size_setCell, World.size_drew, World.heap_drewN]; omega) | (simp; omega))) | (refine ext_call (by assumption) ?_ ?_; · (first | omega | (simp only [World.size_alloc, World.size_setCell, World.size_drew, World.heap_drewN]; omega) | (simp; omega)))))); (· rfl); (· rfl); (· rfl); (· rfl))))
                refine (putrel_call HPUT.out (HF.out.below (by (repeat (first | exact Below.refl _ _ | assumption | (with_reducible refine Below.drew ?_) | (with_reducible refine below_drewN' ?_ _) | (with_reducible refine ext_alloc ?_ ?_; · (first | omega | (simp only [World.size_alloc, World.size_setCell, World.size_drew, World.heap_drewN]; omega) | (simp; omega))) | (with_reducible refine ext_setCell ?_ ?_; · (first | omega | (simp only [World.size_alloc, World.size_setCell, World.size_drew, World.heap_drewN]; omega) | (simp; omega))) | (refine ext_call (by assumption) ?_ ?_; · (first | omega | (simp only [World.size_alloc, World.size_setCell, World.size_drew, World.heap_drewN]; omega) | (simp; omega))))))) _ (HPB.out.below (by (repeat (first | exact Below.refl _ _ | assumption | (with_reducible refine Below.drew ?_) | (with_reducible refine below_drewN' ?_ _) | (with_reducible refine ext_alloc ?_ ?_; · (first | omega | (simp only [World.size_alloc, World.size_setCell, World.size_drew, World.heap_drewN]; omega) | (simp; omega))) | (with_reducible refine ext_setCell ?_ ?_; · (first | omega | (simp only [World.size_alloc, World.size_setCell, World.size_drew, World.heap_drewN]; omega) | (simp; omega))) | (refine ext_call (by assumption) ?_ ?_; · (first | omega | (simp only [World.size_alloc, World.size_setCell, World.size_drew, World.heap_drewN]; omega) | (simp; omega)))))))).mono ?_
                rintro e w2 ⟨rfl, hF2, hT2⟩
                have HF2 := Lib.hid hF2
                have HT2 : Hid (Turns X.mut w w2) := (HT.out.alloc _).trans hT2
                have HZ2 : Hid (BytesAt X.mut w2 (.slice (some ⟨w.heap.size, 0, none⟩) Y Y) (List.replicate Y 0)) := (HZr.out.below ((Below.refl _ _).alloc (Nat.le_refl _) _)).turns hT2 (fun k _ hk => hk)
                clear hF2 hT2
                go_wp2_with fail
                refine ⟨⟨n + 1, by omega, ?_, HF2, HT2, HZ2⟩, by simp [RowKit.intOf]; omega⟩
                first | rfl | (congr 1; done) | (congr 1; omega)
              · skip
                have HSV := Lib.hid (hst1 true hs)
                have hput : PutRel (Fs n) ⟨1, n, 0, 0⟩ d (Fs (n + 1)) := by
                  rw [hs] at hstep; exact hstep
                have HPUT := Lib.hid hput
                clear hstep hput hs hst1
                go_wp2_with (first | (at_lookup; have _t := tok1; (apply wpl_look_some HMP.out keysI Tryz.underlying98 Tryz.zeroValue37 (n : Int) HNK.out HL.out; (· (repeat (first | exact Below.refl _ _ | assumption | (with_reducible refine Below.drew ?_) | (with_reducible refine below_drewN' ?_ _) | (with_reducible refine ext_alloc ?_ ?_; · (first | omega | (simp only [World.size_alloc, World.size_setCell, World.size_drew, World.heap_drewN]; omega) | (simp; omega))) | (with_reducible refine ext_setCell ?_ ?_; · (first | omega | (simp only [World.size_alloc, World.size_setCell, World.size_drew, World.heap_drewN]; omega) | (simp; omega))) | (refine ext_call (by assumption) ?_ ?_; · (first | omega | (simp only [World.size_alloc, World.size_setCell, World.size_drew, World.heap_drewN]; omega) | (simp; omega)))))); (· rfl); (· rfl); (· rfl); (· rfl)); clear tok1) | (at_lookup; (apply wpl_look_none HG.out keysI Tryz.underlying98 Tryz.zeroValue37 (n : Int) HNK.out HGN.out; (· (repeat (first | exact Below.refl _ _ | assumption | (with_reducible refine Below.drew ?_) | (with_reducible refine below_drewN' ?_ _) | (with_reducible refine ext_alloc ?_ ?_; · (first | omega | (simp only [World.size_alloc, World.size_setCell, World.size_drew, World.heap_drewN]; omega) | (simp; omega))) | (with_reducible refine ext_setCell ?_ ?_; · (first | omega | (simp only [World.size_alloc, World.size_setCell, World.size_drew, World.heap_drewN]; omega) | (simp; omega))) | (refine ext_call (by assumption) ?_ ?_; · (first | omega | (simp only [World.size_alloc, World.size_setCell, World.size_drew, World.heap_drewN]; omega) | (simp; omega)))))); (· rfl); (· rfl); (· rfl); (· rfl))) | (at_lookup; (apply wpl_look1 HMS.out keysI Tryz.underlying99 Tryz.zeroValue4 (n : Int) HNK.out HSV.out; (· (repeat (first | exact Below.refl _ _ | assumption | (with_reducible refine Below.drew ?_) | (with_reducible refine below_drewN' ?_ _) | (with_reducible refine ext_alloc ?_ ?_; · (first | omega | (simp only [World.size_alloc, World.size_setCell, World.size_drew, World.heap_drewN]; omega) | (simp; omega))) | (with_reducible refine ext_setCell ?_ ?_; · (first | omega | (simp only [World.size_alloc, World.size_setCell, World.size_drew, World.heap_drewN]; omega) | (simp; omega))) | (refine ext_call (by assumption) ?_ ?_; · (first | omega | (simp only [World.size_alloc, World.size_setCell, World.size_drew, World.heap_drewN]; omega) | (simp; omega)))))); (· rfl); (· rfl); (· rfl); (· rfl))))
                refine (putrel_call HPUT.out (HF.out.below (by (repeat (first | exact Below.refl _ _ | assumption | (with_reducible refine Below.drew ?_) | (with_reducible refine below_drewN' ?_ _) | (with_reducible refine ext_alloc ?_ ?_; · (first | omega | (simp only [World.size_alloc, World.size_setCell, World.size_drew, World.heap_drewN]; omega) | (simp; omega))) | (with_reducible refine ext_setCell ?_ ?_; · (first | omega | (simp only [World.size_alloc, World.size_setCell, World.size_drew, World.heap_drewN]; omega) | (simp; omega))) | (refine ext_call (by assumption) ?_ ?_; · (first | omega | (simp only [World.size_alloc, World.size_setCell, World.size_drew, World.heap_drewN]; omega) | (simp; omega))))))) _ (HPB.out.below (by (repeat (first | exact Below.refl _ _ | assumption | (with_reducible refine Below.drew ?_) | (with_reducible refine below_drewN' ?_ _) | (with_reducible refine ext_alloc ?_ ?_; · (first | omega | (simp only [World.size_alloc, World.size_setCell, World.size_drew, World.heap_drewN]; omega) | (simp; omega))) | (with_reducible refine ext_setCell ?_ ?_; · (first | omega | (simp only [World.size_alloc, World.size_setCell, World.size_drew, World.heap_drewN]; omega) | (simp; omega))) | (refine ext_call (by assumption) ?_ ?_; · (first | omega | (simp only [World.size_alloc, World.size_setCell, World.size_drew, World.heap_drewN]; omega) | (simp; omega)))))))).mono ?_
                rintro e w2 ⟨rfl, hF2, hT2⟩
                have HF2 := Lib.hid hF2
                have HT2 : Hid (Turns X.mut w w2) := (HT.out.alloc _).trans hT2
                have HZ2 : Hid (BytesAt X.mut w2 (.slice (some ⟨w.heap.size, 0, none⟩) Y Y) (List.replicate Y 0)) := (HZr.out.below ((Below.refl _ _).alloc (Nat.le_refl _) _)).turns hT2 (fun k _ hk => hk)
                clear hF2 hT2
                go_wp2_with fail
                refine ⟨⟨n + 1, by omega, ?_, HF2, HT2, HZ2⟩, by simp [RowKit.intOf]; omega⟩
                first | rfl | (congr 1; done) | (congr 1; omega)
            | some d2 =>
              cases hgn2 : g n with
              | none => rw [hgn2] at hbn; simp only [OptAt] at hbn
              | some v2 =>
                rw [hgn2] at hbn
                simp only [OptAt] at hbn
                obtain ⟨bb, bof, bc, rfl, q1, q2, q3, q4⟩ := hbn
                have HBB : Hid (BytesAt X.mut wr (.slice (some ⟨bb, bof, none⟩) d2.length bc) d2) := ⟨bb, bof, bc, rfl, q1, q2, q3, q4⟩
                have HGN := Lib.hid hgn2
                clear hgn2 q1 q2 q3 q4
                cases hs : (Fs n).stale n
                · skip
                  have HSV := Lib.hid (hst1 false hs)
                  have hput : PutRel (Fs n) ⟨1, n, 0, 0⟩ d (Fs (n + 1)) := by
                    rw [hs] at hstep; exact hstep
                  have HPUT := Lib.hid hput
                  clear hstep hput hs hst1
                  go_wp2_with (first | (at_lookup; have _t := tok1; (apply wpl_look_some HMP.out keysI Tryz.underlying98 Tryz.zeroValue37 (n : Int) HNK.out HL.out; (· (repeat (first | exact Below.refl _ _ | assumption | (with_reducible refine Below.drew ?_) | (with_reducible refine below_drewN' ?_ _) | (with_reducible refine ext_alloc ?_ ?_; · (first | omega | (simp only [World.size_alloc, World.size_setCell, World.size_drew, World.heap_drewN]; omega) | (simp; omega))) | (with_reducible refine ext_setCell ?_ ?_; · (first | omega | (simp only [World.size_alloc, World.size_setCell, World.size_drew, World.heap_drewN]; omega) | (simp; omega))) | (refine ext_call (by assumption) ?_ ?_; · (first | omega | (simp only [World.size_alloc, World.size_setCell, World.size_drew, World.heap_drewN]; omega) | (simp; omega)))))); (· rfl); (· rfl); (· rfl); (· rfl)); clear tok1) | (at_lookup; (apply wpl_look_some HG.out keysI Tryz.underlying98 Tryz.zeroValue37 (n : Int) HNK.out HGN.out; (· (repeat (first | exact Below.refl _ _ | assumption | (with_reducible refine Below.drew ?_) | (with_reducible refine below_drewN' ?_ _) | (with_reducible refine ext_alloc ?_ ?_; · (first | omega | (simp only [World.size_alloc, World.size_setCell, World.size_drew, World.heap_drewN]; omega) | (simp; omega))) | (with_reducible refine ext_setCell ?_ ?_; · (first | omega | (simp only [World.size_alloc, World.size_setCell, World.size_drew, World.heap_drewN]; omega) | (simp; omega))) | (refine ext_call (by assumption) ?_ ?_; · (first | omega | (simp only [World.size_alloc, World.size_setCell, World.size_drew, World.heap_drewN]; omega) | (simp; omega)))))); (· rfl); (· rfl); (· rfl); (· rfl))) | (at_lookup; (apply wpl_look1 HMS.out keysI Tryz.underlying99 Tryz.zeroValue4 (n : Int) HNK.out HSV.out; (· (repeat (first | exact Below.refl _ _ | assumption | (with_reducible refine Below.drew ?_) | (with_reducible refine below_drewN' ?_ _) | (with_reducible refine ext_alloc ?_ ?_; · (first | omega | (simp only [World.size_alloc, World.size_setCell, World.size_drew, World.heap_drewN]; omega) | (simp; omega))) | (with_reducible refine ext_setCell ?_ ?_; · (first | omega | (simp only [World.size_alloc, World.size_setCell, World.size_drew, World.heap_drewN]; omega) | (simp; omega))) | (refine ext_call (by assumption) ?_ ?_; · (first | omega | (simp only [World.size_alloc, World.size_setCell, World.size_drew, World.heap_drewN]; omega) | (simp; omega)))))); (· rfl); (· rfl); (· rfl); (· rfl))))
                  refine (putrel_call HPUT.out (HF.out.below (by (repeat (first | exact Below.refl _ _ | assumption | (with_reducible refine Below.drew ?_) | (with_reducible refine below_drewN' ?_ _) | (with_reducible refine ext_alloc ?_ ?_; · (first | omega | (simp only [World.size_alloc, World.size_setCell, World.size_drew, World.heap_drewN]; omega) | (simp; omega))) | (with_reducible refine ext_setCell ?_ ?_; · (first | omega | (simp only [World.size_alloc, World.size_setCell, World.size_drew, World.heap_drewN]; omega) | (simp; omega))) | (refine ext_call (by assumption) ?_ ?_; · (first | omega | (simp only [World.size_alloc, World.size_setCell, World.size_drew, World.heap_drewN]; omega) | (simp; omega))))))) _ (HPB.out.below (by (repeat (first | exact Below.refl _ _ | assumption | (with_reducible refine Below.drew ?_) | (with_reducible refine below_drewN' ?_ _) | (with_reducible refine ext_alloc ?_ ?_; · (first | omega | (simp only [World.size_alloc, World.size_setCell, World.size_drew, World.heap_drewN]; omega) | (simp; omega))) | (with_reducible refine ext_setCell ?_ ?_; · (first | omega | (simp only [World.size_alloc, World.size_setCell, World.size_drew, World.heap_drewN]; omega) | (simp; omega))) | (refine ext_call (by assumption) ?_ ?_; · (first | omega | (simp only [World.size_alloc, World.size_setCell, World.size_drew, World.heap_drewN]; omega) | (simp; omega)))))))).mono ?_
                  rintro e w2 ⟨rfl, hF2, hT2⟩
                  have HF2 := Lib.hid hF2
                  have HT2 : Hid (Turns X.mut w w2) := (HT.out.alloc _).trans hT2
                  have HZ2 : Hid (BytesAt X.mut w2 (.slice (some ⟨w.heap.size, 0, none⟩) Y Y) (List.replicate Y 0)) := (HZr.out.below ((Below.refl _ _).alloc (Nat.le_refl _) _)).turns hT2 (fun k _ hk => hk)
                  clear hF2 hT2
                  go_wp2_with fail
                  refine ⟨⟨n + 1, by omega, ?_, HF2, HT2, HZ2⟩, by simp [RowKit.intOf]; omega⟩
                  first | rfl | (congr 1; done) | (congr 1; omega)
                · skip
                  have HSV := Lib.hid (hst1 true hs)
                  have hput : PutRel (Fs n) ⟨1, n, 0, 0⟩ d (Fs (n + 1)) := by
                    rw [hs] at hstep; exact hstep
                  have HPUT := Lib.hid hput
                  clear hstep hput hs hst1
                  go_wp2_with (first | (at_lookup; have _t := tok1; (apply wpl_look_some HMP.out keysI Tryz.underlying98 Tryz.zeroValue37 (n : Int) HNK.out HL.out; (· (repeat (first | exact Below.refl _ _ | assumption | (with_reducible refine Below.drew ?_) | (with_reducible refine below_drewN' ?_ _) | (with_reducible refine ext_alloc ?_ ?_; · (first | omega | (simp only [World.size_alloc, World.size_setCell, World.size_drew, World.heap_drewN]; omega) | (simp; omega))) | (with_reducible refine ext_setCell ?_ ?_; · (first | omega | (simp only [World.size_alloc, World.size_setCell, World.size_drew, World.heap_drewN]; omega) | (simp; omega))) | (refine ext_call (by assumption) ?_ ?_; · (first | omega | (simp only [World.size_alloc, World.size_setCell, World.size_drew, World.heap_drewN]; omega) | (simp; omega)))))); (· rfl); (· rfl); (· rfl); (· rfl)); clear tok1) | (at_lookup; (apply wpl_look_some HG.out keysI Tryz.underlying98 Tryz.zeroValue37 (n : Int) HNK.out HGN.out; (· (repeat (first | exact Below.refl _ _ | assumption | (with_reducible refine Below.drew ?_) | (with_reducible refine below_drewN' ?_ _) | (with_reducible refine ext_alloc ?_ ?_; · (first | omega | (simp only [World.size_alloc, World.size_setCell, World.size_drew, World.heap_drewN]; omega) | (simp; omega))) | (with_reducible refine ext_setCell ?_ ?_; · (first | omega | (simp only [World.size_alloc, World.size_setCell, World.size_drew, World.heap_drewN]; omega) | (simp; omega))) | (refine ext_call (by assumption) ?_ ?_; · (first | omega | (simp only [World.size_alloc, World.size_setCell, World.size_drew, World.heap_drewN]; omega) | (simp; omega)))))); (· rfl); (· rfl); (· rfl); (· rfl))) | (at_lookup; (apply wpl_look1 HMS.out keysI Tryz.underlying99 Tryz.zeroValue4 (n : Int) HNK.out HSV.out; (· (repeat (first | exact Below.refl _ _ | assumption | (with_reducible refine Below.drew ?_) | (with_reducible refine below_drewN' ?_ _) | (with_reducible refine ext_alloc ?_ ?_; · (first | omega | (simp only [World.size_alloc, World.size_setCell, World.size_drew, World.heap_drewN]; omega) | (simp; omega))) | (with_reducible refine ext_setCell ?_ ?_; · (first | omega | (simp only [World.size_alloc, World.size_setCell, World.size_drew, World.heap_drewN]; omega) | (simp; omega))) | (refine ext_call (by assumption) ?_ ?_; · (first | omega | (simp only [World.size_alloc, World.size_setCell, World.size_drew, World.heap_drewN]; omega) | (simp; omega)))))); (· rfl); (· rfl); (· rfl); (· rfl))))
                  refine (putrel_call HPUT.out (HF.out.below (by (repeat (first | exact Below.refl _ _ | assumption | (with_reducible refine Below.drew ?_) | (with_reducible refine below_drewN' ?_ _) | (with_reducible refine ext_alloc ?_ ?_; · (first | omega | (simp only [World.size_alloc, World.size_setCell, World.size_drew, World.heap_drewN]; omega) | (simp; omega))) | (with_reducible refine ext_setCell ?_ ?_; · (first | omega | (simp only [World.size_alloc, World.size_setCell, World.size_drew, World.heap_drewN]; omega) | (simp; omega))) | (refine ext_call (by assumption) ?_ ?_; · (first | omega | (simp only [World.size_alloc, World.size_setCell, World.size_drew, World.heap_drewN]; omega) | (simp; omega))))))) _ (HPB.out.below (by (repeat (first | exact Below.refl _ _ | assumption | (with_reducible refine Below.drew ?_) | (with_reducible refine below_drewN' ?_ _) | (with_reducible refine ext_alloc ?_ ?_; · (first | omega | (simp only [World.size_alloc, World.size_setCell, World.size_drew, World.heap_drewN]; omega) | (simp; omega))) | (with_reducible refine ext_setCell ?_ ?_; · (first | omega | (simp only [World.size_alloc, World.size_setCell, World.size_drew, World.heap_drewN]; omega) | (simp; omega))) | (refine ext_call (by assumption) ?_ ?_; · (first | omega | (simp only [World.size_alloc, World.size_setCell, World.size_drew, World.heap_drewN]; omega) | (simp; omega)))))))).mono ?_
                  rintro e w2 ⟨rfl, hF2, hT2⟩
                  have HF2 := Lib.hid hF2
                  have HT2 : Hid (Turns X.mut w w2) := (HT.out.alloc _).trans hT2
                  have HZ2 : Hid (BytesAt X.mut w2 (.slice (some ⟨w.heap.size, 0, none⟩) Y Y) (List.replicate Y 0)) := (HZr.out.below ((Below.refl _ _).alloc (Nat.le_refl _) _)).turns hT2 (fun k _ hk => hk)
                  clear hF2 hT2
                  go_wp2_with fail
                  refine ⟨⟨n + 1, by omega, ?_, HF2, HT2, HZ2⟩, by simp [RowKit.intOf]; omega⟩
                  first | rfl | (congr 1; done) | (congr 1; omega)
    · have e : n = N := by omega
      subst e
      go_wp2_with fail
      refine (putrel_call HLA.out HF.out _ HZr.out).mono ?_
      rintro e w2 ⟨rfl, hF2, hT2⟩
      have HF2 := Lib.hid hF2
      have HT2 : Hid (Turns X.mut w w2) := HT.out.trans hT2
      clear hF2 hT2
      go_wp2_with fail
      go_ret
      exact ⟨rfl, HF2.out, HT2.out⟩
end Go.Proofs.YthghhcnpbehaiaaGreat
