/- The flash: Flush, where there is room. -/
import Derived.Test.YthghhcnpbehaiaaGreatFa33
import Derived.Test.YthghhcnpbehaiaaGreatFa34

namespace Go.Proofs.YthghhcnpbehaiaaGreat
open Go.RowKit

def isNilV : Value → Bool
  | .slice none _ _ => true
  | _ => false
/-- The base on the way: those still to come as they were. -/
def gmid (l : List (Int × Value)) (g : Int → Option Value) (todo : List (Int × Value)) : Int → Option Value := fun n =>
  if n ∈ todo.map (·.1) then g n else match look l n with
    | some v => if isNilV v then none else some v
    | none => g n
theorem gmid_all (l : List (Int × Value)) (g : Int → Option Value) : gmid l g l = g := by
  funext n
  rw [gmid]
  split
  · rfl
  · rename_i h
    cases hl : look l n with
    | none => rfl
    | some v => exact absurd ((look_keys l n).2 (by rw [hl]; rfl)) h
theorem gmid_step {l : List (Int × Value)} {g : Int → Option Value} {todo todo' : List (Int × Value)} {n : Int} {v : Value} (hnd : (todo.map (·.1)).Nodup) (hp : todo.Perm ((n, v) :: todo')) (hl : look l n = some v) :
    gmid l g todo' = fput (gmid l g todo) n (if isNilV v then none else some v) := by
  have hk : (todo.map (·.1)).Perm (n :: todo'.map (·.1)) := hp.map _
  have hn' : n ∉ todo'.map (·.1) := by
    have := hk.nodup_iff.1 hnd
    exact (List.nodup_cons.1 this).1
  funext m
  by_cases e : m = n
  · subst e
    rw [fput_self, gmid, if_neg hn', hl]
  · rw [fput_ne _ e, gmid, gmid]
    have : m ∈ todo.map (·.1) ↔ m ∈ todo'.map (·.1) := by
      rw [hk.mem_iff, List.mem_cons]; simp [e]
    simp only [this]

/-- The pages that there are behind a flush. -/
def flBase (base : Int → Option (List Int)) (pend : Int → Option (Option (List Int))) : Int → Option (List Int) := fun n => match pend n with
  | some o => o
  | none => base n
theorem flBase_at {M : Nat → Prop} {w : World} {l : List (Int × Value)} {g : Int → Option Value} {base : Int → Option (List Int)} {pend : Int → Option (Option (List Int))} (hp : ∀ n, Opt2At M w (look l n) (pend n)) (hb : ∀ n, OptAt M w (g n) (base n)) (n : Int) :
    OptAt M w (gmid l g [] n) (flBase base pend n) := by
  have h1 := hp n
  have h2 := hb n
  simp only [gmid, List.map_nil, List.not_mem_nil, if_false, flBase]
  cases hl : look l n with
  | none =>
    cases hq : pend n with
    | none => exact h2
    | some o => rw [hl, hq] at h1; simp only [Opt2At] at h1
  | some v =>
    cases hq : pend n with
    | none => rw [hl, hq] at h1; simp only [Opt2At] at h1
    | some o =>
      rw [hl, hq] at h1
      cases o with
      | none => simp only [Opt2At] at h1; subst h1; exact trivial
      | some d =>
        simp only [Opt2At] at h1
        obtain ⟨b, o, c, rfl, h⟩ := h1
        simp only [isNilV, Bool.false_eq_true, if_false]
        exact ⟨b, o, c, rfl, h⟩

/-- A flash behind a flush that was put. -/
def Fl.flushed (F1 : Fl) : Fl := { F1 with base := flBase F1.base F1.pend, pend := fun _ => none, np := false, stale := fun _ => false, now := 0 }

theorem clear_run {α : Type} [DecidableEq α] {P : Program} {k e t : TypeId} {mk : α → Value} {w : World} {b : Nat} {l : List (α × Value)} (h : MapAt w mk b l) (ht : P.underlying t = some (.map k e)) :
    ∃ W, (∀ ty, (Builtin.clear_ #[t] ty #[.map (some b)]).run P w = .ok (.tuple #[]) W) ∧ MapAt W mk b [] ∧ Turns (· = b) w W ∧ W.heap.size = w.heap.size := by
  have hlt := h.lt
  obtain ⟨es, clock, h1, h2⟩ := h
  refine ⟨Go.ChangeMaps.setBlock w b (.map #[] clock), fun ty => ?_, ⟨#[], clock, sb_same hlt _, by simp, by simp, by simp, by simp⟩, ⟨rfl, rfl, rfl, by simp [Go.ChangeMaps.setBlock], fun q _ hq => sb_other _ _ hq⟩, by simp [Go.ChangeMaps.setBlock]⟩
  simp [Builtin.clear_, run_underlying ht, MapKept.run_getObj_map h1, MapKept.run_setObj_map _ h1, Result.andThen, Go.ChangeMaps.setBlock]

set_option maxHeartbeats 2000000 in
set_option maxRecDepth 100000 in
theorem flush20 {w : World} {X : FA} {F : Fl} (h : FlashAt w X F) (hoff : F.C.off = false) (hdeg : F.deg = false) (hlost : (F.C.lost : Int) ≤ F.C.g.S) (hnp : F.np = true) (hfree : 2 + F.C.g.S - F.C.lost ≤ F.C.freeN) (hep : 0 ≤ F.epoch ∧ F.epoch < 4611686018427387904)
    (Fs : Nat → Fl) (F1 : Fl) (h0 : Fs 0 = { F with epoch := F.epoch + 1, now := F.epoch + 1 }) (N : Nat) (hN : (N : Int) = F.C.g.B * F.C.g.P) (hst : ∀ n, n < N → PutsStep (Fs n) n (Fs (n + 1))) (hlast : PutRel (Fs N) ⟨3, 0, 0, 0⟩ (zerosY F.C.g) F1) (hcalm : F1.C.spread ≤ F1.C.g.T) :
    Calls Tryz.prog 20 #[ptr X.f] w fun e w' => e = .returned (i64 0) ∧ FlashAt w' X F1.flushed ∧ Turns X.mut w w' := by
  have hon := on59 h.chip
  rw [hoff] at hon
  have hwn := fun W (hb : Below w.heap.size w W) => worn67_no (h.below hb).hd hlost
  have hrs := fun W (hb : Below w.heap.size w W) => restore71_no (h.below hb) hfree
  have c0 := h.row.cell0 0 rfl
  have c13 := h.row.cell0 13 rfl
  rw [hdeg] at c13
  have c8 := h.row.cell0 8 rfl
  obtain ⟨l0, hm0, hok0, hp0, hn0, hl0⟩ := h.pend
  have hlen0 : 0 < l0.length := by
    rcases Nat.eq_zero_or_pos l0.length with e | e
    · exfalso
      have := hn0.2 (List.length_eq_zero_iff.1 e)
      rw [hnp] at this; cases this
    · exact e
  obtain ⟨es, ck, hh0, hh1, -⟩ := hm0
  have hes : es.size = l0.length := by have := hh1.length_eq; simpa using this
  have lmp : X.mp < w.heap.size := heap_lt hh0
  have HON := Lib.hid hon
  have HWN := Lib.hid hwn
  have HRS := Lib.hid hrs
  have HH := Lib.hid h
  have HH0 := Lib.hid hh0
  have H0 := Lib.hid h0
  have HN := Lib.hid hN
  have HST := Lib.hid hst
  have HLA := Lib.hid hlast
  have HCA := Lib.hid hcalm
  have lf := h.f_lt
  have esp : ((es.size : Int) == 0) = false := by rw [beq_eq_false_iff_ne]; omega
  clear hon hwn hrs h hok0 hp0 hn0 hl0 hh1 h0 hN hst hlast hcalm hoff hdeg hnp hh0
  have hnl := Lib.run_eql_slice_nil (P := Tryz.prog)
  go_enter Tryz.func20, Tryz.ntmps20
  go_wp2_with fail
  refine HON.out.mono ?_
  rintro e w1 ⟨rfl, rfl⟩
  go_wp2_with fail
  refine (HWN.out _ (Below.refl _ _)).mono ?_
  rintro e w1 ⟨rfl, hb1⟩
  have z1 := hb1.size
  have c8' := keepc hb1 c8
  have hh1 : w1.heap[X.mp]? = some (.map es ck) := (hb1.block _ lmp).trans HH0.out
  have hle : (Builtin.len_ #[98] 3 #[.map (some X.mp)]).run Tryz.prog w1 = .ok (i64 es.size) w1 := by
    simp [Builtin.len_, run_underlying Tryz.underlying98, MapKept.run_getObj_map hh1, Result.andThen, goInt]
  have lf1 : X.f < w1.heap.size := by omega
  clear hh1
  go_wp2_with fail
  refine (HRS.out _ hb1).mono ?_
  rintro e w2 ⟨rfl, hb2⟩
  have z2 := hb2.size
  have h02 : Below w.heap.size w w2 := ext_call hb2 z1 hb1
  have hF2 := HH.out.below h02
  have c11 : w2.cell? ⟨X.f, 11, none⟩ = some (i64 F.epoch) := hF2.row.cell0 11 rfl
  have u11 := hF2.row.free0 11 rfl
  have c12 : w2.cell? ⟨X.f, 12, none⟩ = some (i64 F.now) := hF2.row.cell0 12 rfl
  have u12 := hF2.row.free0 12 rfl
  have lf2 : X.f < w2.heap.size := by omega
  have hew : IntKind.i64.wrap (F.epoch + 1) = F.epoch + 1 := IntWalk.i64_in _ (by omega)
  have hTs : Turns (· = X.f) w2 ((w2.setCell ⟨X.f, 11, none⟩ (i64 (F.epoch + 1))).setCell ⟨X.f, 12, none⟩ (i64 (F.epoch + 1))) := by
    have hx : (fun b : Nat => b = X.f) X.f := rfl
    refine Turns.setCell (Turns.setCell (Turns.refl _ w2) (.inl ?_) _) (.inl ?_) _ <;> exact hx
  have hF3 : FlashAt ((w2.setCell ⟨X.f, 11, none⟩ (i64 (F.epoch + 1))).setCell ⟨X.f, 12, none⟩ (i64 (F.epoch + 1))) X (Fs 0) := by
    rw [H0.out]
    refine hF2.put_row (sq := F.seq) (ep := F.epoch + 1) (nw := F.epoch + 1) (dg := F.deg) hTs ?_
    have := (hF2.row.setCell 11 (i64 (F.epoch + 1))).setCell 12 (i64 (F.epoch + 1))
    simp only [Nat.zero_add] at this
    exact this
  have hT3 : Turns X.mut w ((w2.setCell ⟨X.f, 11, none⟩ (i64 (F.epoch + 1))).setCell ⟨X.f, 12, none⟩ (i64 (F.epoch + 1))) := (Turns.of_below h02).trans (hTs.mono (fun k _ hk => by rw [hk]; exact FA.Sep.f_mut X))
  have hg0 : (Fs 0).C.g = F.C.g := by rw [H0.out]
  have hpt := puts72 Fs F1 hF3 N (by rw [hg0]; exact HN.out) HST.out (by rw [hg0]; exact HLA.out)
  have HPT := Lib.hid hpt
  have HT3 := Lib.hid hT3
  clear hF2 hTs hF3 hT3 hg0 hpt h02 hle esp c8' c8 c13 c0
  go_wp2_with fail
  refine HPT.out.mono ?_
  rintro e w4 ⟨rfl, hF4, hT4⟩
  have z4 := hT4.size
  simp only [World.size_setCell] at z4
  have c12' : w4.cell? ⟨X.f, 12, none⟩ = some (i64 F1.now) := hF4.row.cell0 12 rfl
  have u12' := hF4.row.free0 12 rfl
  have c8 : w4.cell? ⟨X.f, 8, none⟩ = some (.map (some X.mp)) := hF4.row.cell0 8 rfl
  have hTs : Turns (· = X.f) w4 (w4.setCell ⟨X.f, 12, none⟩ (i64 0)) := by
    have hx : (fun b : Nat => b = X.f) X.f := rfl
    exact Turns.setCell (Turns.refl _ w4) (.inl hx) _
  have hF5 : FlashAt (w4.setCell ⟨X.f, 12, none⟩ (i64 0)) X { F1 with now := 0 } := by
    refine hF4.put_row (sq := F1.seq) (ep := F1.epoch) (nw := 0) (dg := F1.deg) hTs ?_
    have := hF4.row.setCell 12 (i64 0)
    simp only [Nat.zero_add] at this
    exact this
  have hT5 : Turns X.mut w (w4.setCell ⟨X.f, 12, none⟩ (i64 0)) := (HT3.out.trans hT4).trans (hTs.mono (fun k _ hk => by rw [hk]; exact FA.Sep.f_mut X))
  have hz5 : (w4.setCell ⟨X.f, 12, none⟩ (i64 0)).heap.size = w4.heap.size := by simp
  have lf4 : X.f < w4.heap.size := by omega
  have HF5 := Lib.hid hF5
  have HT5 := Lib.hid hT5
  clear hF4 hT4 hTs hF5 hT5 c11 u11 c12 u12
  go_wp2_with (at_range; refine stopT ?_)
  unfold Go.RowKit.Hid
  generalize w4.setCell ⟨X.f, 12, none⟩ (i64 0) = w5 at *
  obtain ⟨l, hm, hok, hp, hnn, hll⟩ := HF5.out.pend
  obtain ⟨g, hg, hb⟩ := HF5.out.base
  refine wpl_range rfl _ _ rfl rfl hm Tryz.underlying98 fun ob hit => ?_
  have HIT := Lib.hid hit
  have HP := Lib.hid hp
  have HB := Lib.hid hb
  have HG := Lib.hid hg
  have HO := Lib.hid hok
  have hnd : (l.map (·.1)).Nodup := by obtain ⟨_, _, _, _, _, _, h5⟩ := hm; exact h5
  have HND := Lib.hid hnd
  have hr0 := HF5.out.row
  have HR0 := Lib.hid hr0
  have hfmb := HF5.out.sep.f_mb
  have hmpmb := HF5.out.sep.mb_mp
  have lmp5 : X.mp < w5.heap.size := hm.lt
  have lmb5 : X.mb < w5.heap.size := hg.lt
  have lf5 : X.f < w5.heap.size := HF5.out.f_lt
  clear hit hp hb hg hok hnn hm hnd hz5 hr0 c12' u12' c8
  go_wp2_with fail
  try go_frame
  go_loopw [6] (fun _ wr => ∃ todo : List (Int × Value), Hid (IterAt wr i64 X.mp w5.heap.size l todo) ∧ Hid (MapF wr i64 ok64 X.mb (gmid l g todo)) ∧ Hid (Turns (· = X.mb) w5 wr) ∧ Hid (∀ e ∈ todo, e ∈ l) ∧ Hid ((todo.map (·.1)).Nodup) ∧ w5.heap.size < wr.heap.size) (fun _ wr => wr.rangeLeft X.mp w5.heap.size)
  case atStart =>
    refine ⟨l, HIT, ?_, ?_, fun e he => he, HND, by simp⟩
    · rw [gmid_all]; exact HG.out.below ((Below.refl _ _).alloc (Nat.le_refl _) _)
    · exact (Turns.refl _ _).alloc _
  case round =>
    obtain ⟨todo, hit, hM, hT, hsub, hnd, hz⟩ := hrel
    go_wp2_with (at_next; refine stopT ?_)
    unfold Go.RowKit.Hid
    refine wpl_next rfl _ rfl rfl hit.out (fun htodo => ?_) (fun n v todo' w6 hp hT6 hz6 hd6 hen hit6 => ?_)
    · subst htodo
      have hF6 : FlashAt wr X { F1 with now := 0, base := flBase F1.base F1.pend } := by
        have hmut : X.mut X.mb := .inr (.inr (.inr (.inl rfl)))
        refine HF5.out.put_base _ ⟨_, hM.out, fun n => ?_⟩ hT.out
        exact (flBase_at HP.out HB.out n).turns hT.out (fun k _ hk => by rw [hk]; exact hmut)
      have hT6 : Turns X.mut w wr := HT5.out.trans (hT.out.mono (fun k _ hk => by rw [hk]; exact .inr (.inr (.inr (.inl rfl)))))
      obtain ⟨l6, hm6, -⟩ := hF6.pend
      have c8 : wr.cell? ⟨X.f, 8, none⟩ = some (.map (some X.mp)) := hF6.row.cell0 8 rfl
      have HF6 := Lib.hid hF6
      have HT6 := Lib.hid hT6
      have HM6 := Lib.hid hm6
      have lf6 := hF6.f_lt
      clear hF6 hT6 hm6 hit hM hT hsub hnd
      obtain ⟨w7, hcl7, hm7, hT7, hz7⟩ := clear_run HM6.out Tryz.underlying98
      have hz7a : wr.heap.size ≤ w7.heap.size := by omega
      have hF7 : FlashAt w7 X { F1 with now := 0, base := flBase F1.base F1.pend, pend := fun _ => none, np := false } :=
        HF6.out.put_pend _ false ⟨[], hm7, by simp, fun n => trivial, by simp, by simp⟩ hT7
      have c9 : w7.cell? ⟨X.f, 9, none⟩ = some (.map (some X.ms)) := hF7.row.cell0 9 rfl
      obtain ⟨l7, hm8, -⟩ := hF7.stale
      obtain ⟨w8, hcl8, hm8', hT8, hz8⟩ := clear_run hm8 Tryz.underlying99
      have hz8a : w7.heap.size ≤ w8.heap.size := by omega
      have hF8 : FlashAt w8 X F1.flushed := hF7.put_stale (fun _ => false) ⟨[], hm8', rfl, by simp⟩ hT8
      have hT88 : Turns X.mut w w8 := (HT6.out.trans (hT7.mono (fun k _ hk => by rw [hk]; exact .inr (.inr (.inr (.inr (.inl rfl))))))).trans (hT8.mono (fun k _ hk => by rw [hk]; exact .inr (.inr (.inr (.inr (.inr rfl))))))
      have hlv := level73_no hF8 HCA.out
      have HF8 := Lib.hid hF8
      have HT88 := Lib.hid hT88
      have HLV := Lib.hid hlv
      have lf7 : X.f < w7.heap.size := by omega
      clear hm7 hT7 hz7 hF7 hm8 hm8' hT8 hz8 hF8 hT88 hlv
      go_wp2_with fail
      refine HLV.out.mono ?_
      rintro e w9 ⟨rfl, hb9⟩
      go_wp2_with fail
      go_ret
      exact ⟨rfl, HF8.out.below hb9, HT88.out.trans (Turns.of_below hb9)⟩
    · have hmem : (n, v) ∈ l := hsub.out _ (hp.mem_iff.2 List.mem_cons_self)
      have hlk : look l n = some v := look_mem HND.out hmem
      have hok := HO.out _ hmem
      simp only at hok
      have hpv := HP.out n
      rw [hlk] at hpv
      have hgs := gmid_step (g := g) hnd.out hp hlk
      have hsub2 : ∀ e ∈ todo', e ∈ l := fun e he => hsub.out e (hp.mem_iff.2 (List.mem_cons_of_mem _ he))
      have hnd2 : (todo'.map (·.1)).Nodup := by
        have hk : (todo.map (·.1)).Perm (n :: todo'.map (·.1)) := hp.map _
        exact (List.nodup_cons.1 (hk.nodup_iff.1 hnd.out)).2
      have hlen : todo.length = todo'.length + 1 := by have := hp.length_eq; simpa using this
      have hme : ∀ W, IterAt W i64 X.mp w5.heap.size l todo' → W.rangeLeft X.mp w5.heap.size < wr.rangeLeft X.mp w5.heap.size := fun W hW => by rw [hW.left_eq, hit.out.left_eq]; omega
      have hM6 : MapF w6 i64 ok64 X.mb (gmid l g todo) := hM.out.turns hT6 (by omega)
      have hT06 : Turns (· = X.mb) w5 w6 := hT.out.trans_new hT6 (fun i hi => .inr (by omega))
      have hr6 : Row w6 X.f 0 (Fl.cells X { F1 with now := 0 }) := HR0.out.turns hT06 hfmb
      have c7 : w6.cell? ⟨X.f, 7, none⟩ = some (.map (some X.mb)) := hr6.cell0 7 rfl
      have lz6 : w5.heap.size < w6.heap.size := by omega
      have HM6 := Lib.hid hM6
      have HT06 := Lib.hid hT06
      have HI6 := Lib.hid hit6
      have HGS := Lib.hid hgs
      have HSUB := Lib.hid hsub2
      have HND2 := Lib.hid hnd2
      have HME := Lib.hid hme
      have HOK := Lib.hid hok
      clear hM6 hT06 hit6 hgs hsub2 hnd2 hme hok hr6 hp hlk hmem hsub hnd hM hT hit hT6 hz6
      cases hq : F1.pend n with
      | none => rw [hq] at hpv; simp only [Opt2At] at hpv
      | some o =>
        rw [hq] at hpv
        cases o with
        | none =>
          simp only [Opt2At] at hpv
          subst hpv
          clear hq
          go_wp2_with (at_mapUpdate; refine stopT ?_)
          unfold Go.RowKit.Hid
          apply wpl_put HM6.out keysI Tryz.underlying98 n HOK.out (.slice none 0 0)
          · (repeat (first | exact Below.refl _ _ | assumption | (with_reducible refine Below.drew ?_) | (with_reducible refine below_drewN' ?_ _) | (with_reducible refine ext_alloc ?_ ?_; · (first | omega | (simp only [World.size_alloc, World.size_setCell, World.size_drew, World.heap_drewN]; omega) | (simp; omega))) | (with_reducible refine ext_setCell ?_ ?_; · (first | omega | (simp only [World.size_alloc, World.size_setCell, World.size_drew, World.heap_drewN]; omega) | (simp; omega))) | (refine ext_call (by assumption) ?_ ?_; · (first | omega | (simp only [World.size_alloc, World.size_setCell, World.size_drew, World.heap_drewN]; omega) | (simp; omega)))))
          · rfl
          · rfl
          · rfl
          · rfl
          · rfl
          intro w7 hM7 hT7 hz7
          have HM7 := Lib.hid hM7
          have HT07 := Lib.hid (HT06.out.trans hT7)
          have HI7 := Lib.hid (HI6.out.turns hT7 (by omega) (by omega))
          have lz7 : w5.heap.size < w7.heap.size := by omega
          have hr7 : Row w7 X.f 0 (Fl.cells X { F1 with now := 0 }) := HR0.out.turns HT07.out hfmb
          have c7' : w7.cell? ⟨X.f, 7, none⟩ = some (.map (some X.mb)) := hr7.cell0 7 rfl
          clear hM7 hT7 hz7 c7 hen hr7
          go_wp2_with (at_delete; refine stopT ?_)
          unfold Go.RowKit.Hid
          apply wpl_del HM7.out keysI Tryz.underlying98 n HOK.out
          · (repeat (first | exact Below.refl _ _ | assumption | (with_reducible refine Below.drew ?_) | (with_reducible refine below_drewN' ?_ _) | (with_reducible refine ext_alloc ?_ ?_; · (first | omega | (simp only [World.size_alloc, World.size_setCell, World.size_drew, World.heap_drewN]; omega) | (simp; omega))) | (with_reducible refine ext_setCell ?_ ?_; · (first | omega | (simp only [World.size_alloc, World.size_setCell, World.size_drew, World.heap_drewN]; omega) | (simp; omega))) | (refine ext_call (by assumption) ?_ ?_; · (first | omega | (simp only [World.size_alloc, World.size_setCell, World.size_drew, World.heap_drewN]; omega) | (simp; omega)))))
          · rfl
          · rfl
          · rfl
          · rfl
          intro w8 hM8 hT8 hz8
          have HM8 : Hid (MapF w8 i64 ok64 X.mb (gmid l g todo')) := by
            rw [HGS.out]
            have e1 : fput (fput (gmid l g todo) n (some (.slice none 0 0))) n none = fput (gmid l g todo) n (if isNilV (.slice none 0 0) then none else some (.slice none 0 0)) := by
              funext m; simp only [fput, isNilV, if_true]; split <;> rfl
            rw [← e1]; exact hM8
          have HT08 := Lib.hid (HT07.out.trans hT8)
          have HI8 := Lib.hid (HI7.out.turns hT8 (by omega) (by omega))
          have lz8 : w5.heap.size < w8.heap.size := by omega
          clear hM8 hT8 hz8 c7'
          go_wp2_with fail
          refine ⟨?_, HME.out _ HI8.out⟩
          (repeat apply Exists.intro)
          exact ⟨⟨todo', HI8, HM8, HT08, HSUB, HND2, lz8⟩, rfl⟩
        | some d =>
          simp only [Opt2At] at hpv
          obtain ⟨db, dof, dc, rfl, -⟩ := hpv
          clear hq
          go_wp2_with (at_mapUpdate; refine stopT ?_)
          unfold Go.RowKit.Hid
          apply wpl_put HM6.out keysI Tryz.underlying98 n HOK.out (.slice (some ⟨db, dof, none⟩) d.length dc)
          · (repeat (first | exact Below.refl _ _ | assumption | (with_reducible refine Below.drew ?_) | (with_reducible refine below_drewN' ?_ _) | (with_reducible refine ext_alloc ?_ ?_; · (first | omega | (simp only [World.size_alloc, World.size_setCell, World.size_drew, World.heap_drewN]; omega) | (simp; omega))) | (with_reducible refine ext_setCell ?_ ?_; · (first | omega | (simp only [World.size_alloc, World.size_setCell, World.size_drew, World.heap_drewN]; omega) | (simp; omega))) | (refine ext_call (by assumption) ?_ ?_; · (first | omega | (simp only [World.size_alloc, World.size_setCell, World.size_drew, World.heap_drewN]; omega) | (simp; omega)))))
          · rfl
          · rfl
          · rfl
          · rfl
          · rfl
          intro w7 hM7 hT7 hz7
          have HM7 : Hid (MapF w7 i64 ok64 X.mb (gmid l g todo')) := by rw [HGS.out]; exact hM7
          have HT07 := Lib.hid (HT06.out.trans hT7)
          have HI7 := Lib.hid (HI6.out.turns hT7 (by omega) (by omega))
          have lz7 : w5.heap.size < w7.heap.size := by omega
          clear hM7 hT7 hz7 c7 hen
          go_wp2_with fail
          exact ⟨⟨todo', HI7, HM7, HT07, HSUB, HND2, lz7⟩, HME.out _ HI7.out⟩
end Go.Proofs.YthghhcnpbehaiaaGreat
