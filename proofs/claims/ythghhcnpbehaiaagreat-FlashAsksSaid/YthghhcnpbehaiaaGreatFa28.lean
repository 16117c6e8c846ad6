/- The flash: program. -/
import Derived.Test.YthghhcnpbehaiaaGreatFa26
import Derived.Test.YthghhcnpbehaiaaGreatFa27

namespace Go.Proofs.YthghhcnpbehaiaaGreat
open Go.RowKit

/-- A page is put among those that are found, by its number. -/
def insF (g : Geo) (x : Fnd) : List Fnd → List Fnd
  | [] => [x]
  | y :: l => if g.numZ x.at_ < g.numZ y.at_ then x :: y :: l else y :: insF g x l
theorem insF_perm (g : Geo) (x : Fnd) : ∀ l, (insF g x l).Perm (l ++ [x])
  | [] => List.Perm.refl _
  | y :: l => by
    rw [insF]
    split
    · exact (List.perm_append_comm (l₁ := [x]) (l₂ := y :: l))
    · exact List.Perm.cons _ (insF_perm g x l)
theorem FoundAt.perm {M : Nat → Prop} {w : World} {b : Nat} {l l' : List Fnd} (h : FoundAt M w b l) (hp : l.Perm l') : FoundAt M w b l' := by
  obtain ⟨sl, h1, h2⟩ := h
  exact ⟨sl, h1.perm (hp.map _), fun x hx => h2 x (hp.mem_iff.2 hx)⟩

def Tag.num (t : Tag) (n : Int) : Tag := { t with seq := n }
/-- A flash behind a page that was programmed. -/
def Fl.prog (F : Fl) (p : Plc) (b : Blk) (t : Tag) (d : List Int) : Fl :=
  { F with C := F.C.prog p b (rawOf d (t.num (F.seq + 1))), fd := insF F.C.g ⟨p, t.num (F.seq + 1), d⟩ F.fd, seq := F.seq + 1 }

/-- What is asked of a page that is programmed. -/
structure ProgOk (F : Fl) (p : Plc) (b : Blk) (t : Tag) (d : List Int) : Prop where
  hp : F.C.g.isB p = true
  hb : F.C.at p.b = some b
  off : F.C.off = false
  turn : F.C.turn = 0
  ops : F.C.ops < 4000000000000000000
  nf : failsB F.C.fs p.b b.done = false
  nx : p.p = b.next
  dn : b.done + 1 < 4611686018427387904
  seq : 0 ≤ F.seq ∧ F.seq < 4294967295
  tag : (t.num (F.seq + 1)).Ok
  dl : (d.length : Int) = F.C.g.Y
  by_ : ∀ x ∈ d, 0 ≤ x ∧ x ≤ 255
  new : ∀ y ∈ F.fd, y.at_ ≠ p
  pl : ∀ y ∈ F.fd, ok64 y.at_.b ∧ ok64 y.at_.p
  lost : ((F.prog p b t d).C.lost : Int) ≤ F.C.g.S

theorem rawOf_len (d : List Int) (t : Tag) : (rawOf d t).length = d.length + 16 := by rw [rawOf_eq, List.length_append, tailOf_length]

set_option maxHeartbeats 2000000 in
set_option maxRecDepth 100000 in
theorem program160 {w : World} {X : FA} {F : Fl} (h : FlashAt w X F) (p : Plc) (b : Blk) (t : Tag) (d : List Int) (v : Value) (hv : BytesAt X.mut w v d) (hok : ProgOk F p b t d) :
    Calls Tryz.prog 160 #[ptr X.f, .agg #[i64 p.b, i64 p.p], .agg #[i64 t.kind, i64 t.page, i64 t.seq, i64 t.epoch], v] w fun e w' => e = .returned (i64 0) ∧ FlashAt w' X (F.prog p b t d) ∧ Turns X.mut w w' := by
  have hgo := (Geo.ok_iff _).1 h.chip.ok
  have y1 := hgo.y1
  have y2 := hgo.y2
  have hdl := hok.dl
  have hd64 : 24 ≤ d.length ∧ d.length ≤ 64 := by omega
  obtain ⟨vb, vo, vc, rfl, r1, r2, r3, r4⟩ := hv
  have hvb : vb < w.heap.size := r3.lt (by simpa using r4)
  have hseq := hok.seq
  obtain ⟨sq, hsq⟩ : ∃ sq, sq = F.seq + 1 := ⟨_, rfl⟩
  have hw1 : IntKind.i64.wrap (F.seq + 1) = F.seq + 1 := IntWalk.i64_in _ (by omega)
  have c10 := h.row.cell0 10 rfl
  have f10 := h.row.free0 10 rfl
  have lf := h.f_lt
  have hXb : ∀ k, X.mut k → k < w.heap.size := fun k hk => h.mut_lt hk
  have HH := Lib.hid h
  have HOK := Lib.hid hok
  have HR3 := Lib.hid r3
  have HR2 := Lib.hid r2
  have HR4 := Lib.hid r4
  have HR1 := Lib.hid r1
  have HXB := Lib.hid hXb
  clear h hok r3 r2 r4 r1 hgo hdl hXb
  have nf0 : X.f ≠ w.heap.size := by omega
  have nf1 : X.f ≠ w.heap.size + 1 := by omega
  have lf1 : X.f < w.heap.size + 1 := by omega
  have lf2 : X.f < w.heap.size + 1 + 1 := by omega
  go_enter Tryz.func160, Tryz.ntmps160
  go_wp2_with fail
  have hT0 : Turns (· = X.f) w (w.setCell ⟨X.f, 10, none⟩ (i64 (F.seq + 1))) := by
    have hx : (fun b : Nat => b = X.f) X.f := rfl
    exact Turns.setCell (Turns.refl _ w) (.inl hx) _
  have hF0 : FlashAt (w.setCell ⟨X.f, 10, none⟩ (i64 (F.seq + 1))) X { F with seq := F.seq + 1 } := by
    refine HH.out.put_row (sq := F.seq + 1) (ep := F.epoch) (nw := F.now) (dg := F.deg) hT0 ?_
    have := HH.out.row.setCell 10 (i64 (F.seq + 1))
    rw [Nat.zero_add] at this
    exact this
  have hz0 : (w.setCell ⟨X.f, 10, none⟩ (i64 (F.seq + 1))).heap.size = w.heap.size := by simp
  have hb1 : Below (w.setCell ⟨X.f, 10, none⟩ (i64 (F.seq + 1))).heap.size (w.setCell ⟨X.f, 10, none⟩ (i64 (F.seq + 1))) (((w.setCell ⟨X.f, 10, none⟩ (i64 (F.seq + 1))).alloc (.cells #[i64 p.b, i64 p.p] 75)).alloc (.cells #[i64 t.kind, i64 t.page, i64 (F.seq + 1), i64 t.epoch] 105)) := by (repeat (first | exact Below.refl _ _ | assumption | (with_reducible refine Below.drew ?_) | (with_reducible refine below_drewN' ?_ _) | (with_reducible refine ext_alloc ?_ ?_; · (first | omega | (simp only [World.size_alloc, World.size_setCell, World.size_drew, World.heap_drewN]; omega) | (simp; omega))) | (with_reducible refine ext_setCell ?_ ?_; · (first | omega | (simp only [World.size_alloc, World.size_setCell, World.size_drew, World.heap_drewN]; omega) | (simp; omega))) | (refine ext_call (by assumption) ?_ ?_; · (first | omega | (simp only [World.size_alloc, World.size_setCell, World.size_drew, World.heap_drewN]; omega) | (simp; omega)))))
  have hF1 := hF0.below hb1
  have hP1 : Row (((w.setCell ⟨X.f, 10, none⟩ (i64 (F.seq + 1))).alloc (.cells #[i64 p.b, i64 p.p] 75)).alloc (.cells #[i64 t.kind, i64 t.page, i64 (F.seq + 1), i64 t.epoch] 105)) w.heap.size 0 [i64 p.b, i64 p.p] := by
    have := (Row.new (w.setCell ⟨X.f, 10, none⟩ (i64 (F.seq + 1))) #[i64 p.b, i64 p.p] 75).alloc (.cells #[i64 t.kind, i64 t.page, i64 (F.seq + 1), i64 t.epoch] 105)
    simpa using this
  have hQ1 : Row (((w.setCell ⟨X.f, 10, none⟩ (i64 (F.seq + 1))).alloc (.cells #[i64 p.b, i64 p.p] 75)).alloc (.cells #[i64 t.kind, i64 t.page, i64 (F.seq + 1), i64 t.epoch] 105)) (w.heap.size + 1) 0 [i64 t.kind, i64 t.page, i64 (F.seq + 1), i64 t.epoch] := by
    have := Row.new ((w.setCell ⟨X.f, 10, none⟩ (i64 (F.seq + 1))).alloc (.cells #[i64 p.b, i64 p.p] 75)) #[i64 t.kind, i64 t.page, i64 (F.seq + 1), i64 t.epoch] 105
    simpa using this
  have hr1 : Row (((w.setCell ⟨X.f, 10, none⟩ (i64 (F.seq + 1))).alloc (.cells #[i64 p.b, i64 p.p] 75)).alloc (.cells #[i64 t.kind, i64 t.page, i64 (F.seq + 1), i64 t.epoch] 105)) vb vo (d.map u8) :=
    (HR3.out.turns hT0 (fun e => HR2.out (by rw [e]; exact FA.Sep.f_mut X))).below hb1
  have hT1 : Turns X.mut w (((w.setCell ⟨X.f, 10, none⟩ (i64 (F.seq + 1))).alloc (.cells #[i64 p.b, i64 p.p] 75)).alloc (.cells #[i64 t.kind, i64 t.page, i64 (F.seq + 1), i64 t.epoch] 105)) :=
    (hT0.mono (fun k _ hk => by rw [hk]; exact FA.Sep.f_mut X)).trans (Turns.of_below hb1)
  have hz1 : (((w.setCell ⟨X.f, 10, none⟩ (i64 (F.seq + 1))).alloc (.cells #[i64 p.b, i64 p.p] 75)).alloc (.cells #[i64 t.kind, i64 t.page, i64 (F.seq + 1), i64 t.epoch] 105)).heap.size = w.heap.size + 2 := by simp
  generalize (((w.setCell ⟨X.f, 10, none⟩ (i64 (F.seq + 1))).alloc (.cells #[i64 p.b, i64 p.p] 75)).alloc (.cells #[i64 t.kind, i64 t.page, i64 (F.seq + 1), i64 t.epoch] 105)) = w1 at *
  have hz1' : w.heap.size + 2 ≤ w1.heap.size := by omega
  have hlay := lay196 (t.num (F.seq + 1)) HOK.out.tag d vb vo vc w1 hr1 hd64 HOK.out.by_
  have HLAY := Lib.hid hlay
  have HF1 := Lib.hid hF1
  have HP1 := Lib.hid hP1
  have HQ1 := Lib.hid hQ1
  have HR1' := Lib.hid hr1
  have HT1 := Lib.hid hT1
  clear hlay hF1 hP1 hQ1 hr1 hT1 hz1 hb1 hz0 hF0 hT0 c10 f10
  refine HLAY.out.mono ?_
  rintro e w2 ⟨⟨v2, rfl, hf2⟩, hb2⟩
  have z2 := hb2.size
  obtain ⟨g, gc, rfl, g1, g2, g3, g4⟩ := hf2
  have hF2 := HF1.out.below hb2
  have hP2 := HP1.out.below hb2
  have hQ2 := HQ1.out.below hb2
  have HF2 := Lib.hid hF2
  have HP2 := Lib.hid hP2
  have HQ2 := Lib.hid hQ2
  have HR2' := Lib.hid (HR1'.out.below hb2)
  have HT2 := Lib.hid (HT1.out.trans (Turns.of_below hb2))
  have HG4 := Lib.hid g4
  have c0 : w2.cell? ⟨X.f, 0, none⟩ = some (ptr X.A.c) := hF2.row.cell0 0 rfl
  have p0 := hP2.cell0 0 rfl
  have p1 := hP2.cell0 1 rfl
  have lfb : X.f < w2.heap.size := by omega
  have lpb : w.heap.size < w2.heap.size := by omega
  clear hF2 hP2 hQ2 HF1 HP1 HQ1 HR1' HT1 g4 HLAY
  go_wp2_with fail
  refine wp_region_keep 6 (fun wJ => Below (w2).heap.size (w2) wJ) (by kernel_rfl) (by kernel_rfl) (by (repeat (first | exact Below.refl _ _ | assumption | (with_reducible refine Below.drew ?_) | (with_reducible refine below_drewN' ?_ _) | (with_reducible refine ext_alloc ?_ ?_; · (first | omega | (simp only [World.size_alloc, World.size_setCell, World.size_drew, World.heap_drewN]; omega) | (simp; omega))) | (with_reducible refine ext_setCell ?_ ?_; · (first | omega | (simp only [World.size_alloc, World.size_setCell, World.size_drew, World.heap_drewN]; omega) | (simp; omega))) | (refine ext_call (by assumption) ?_ ?_; · (first | omega | (simp only [World.size_alloc, World.size_setCell, World.size_drew, World.heap_drewN]; omega) | (simp; omega)))))) ?_
  simp only [List.take_succ_cons, List.take_zero, List.drop_succ_cons, List.drop_zero]
  iterate 6 (apply keep_yes; (· rfl); (· (intro w' hJ; (try obtain ⟨hc', hf'⟩ := bcell hJ); refine gives_of (by (go_simp; rfl)) rfl hJ)); simp only [Act.put, List.setIfInBounds_toArray, List.set_cons_zero, List.set_cons_succ])
  refine keep_nil ?_
  intro w3 hb3
  have z3 := hb3.size
  have hF3 := HF2.out.below hb3
  have hgn : ¬ X.A.foot g := fun hf => by have h1 := HXB.out g (.inl hf); omega
  have hrl : ((rawOf d (t.num (F.seq + 1))).length : Int) = F.C.g.Y + 16 := by rw [rawOf_len]; have := HOK.out.dl; omega
  have hpr := program197 hF3.chip p b HOK.out.hp HOK.out.hb HOK.out.off HOK.out.turn (by have h0 : F.C.ops < 4000000000000000000 := HOK.out.ops; show F.C.ops < _; omega) HOK.out.nf HOK.out.nx HOK.out.dn g 0 gc _ (HG4.out.below hb3) hgn hrl
  have HPR := Lib.hid hpr
  have HF3 := Lib.hid hF3
  clear hpr hF3 c0 p0 p1 hgn hrl
  go_wp2_with fail
  refine HPR.out.mono ?_
  rintro e w4 ⟨rfl, hC4, ht4⟩
  have z4 := ht4.size
  have hF4 := HF3.out.chipped hC4 rfl ht4
  have hnf : ∀ k, w.heap.size ≤ k → ¬ X.A.foot k := fun k hk hf => by have h1 := HXB.out k (.inl hf); omega
  have hP4 := (HP2.out.below hb3).turns ht4 (hnf _ (by omega))
  have hQ4 := (HQ2.out.below hb3).turns ht4 (hnf _ (by omega))
  have hr4 := (HR2'.out.below hb3).turns ht4 (fun hf => HR2.out (.inl hf))
  have hT4 := (HT2.out.trans (Turns.of_below hb3)).trans (ht4.mono (fun k _ hk => .inl hk))
  have c6 : w4.cell? ⟨X.f, 6, none⟩ = some (.map (some X.mf)) := hF4.row.cell0 6 rfl
  have p0 := hP4.cell0 0 rfl
  have p1 := hP4.cell0 1 rfl
  have q0 := hQ4.cell0 0 rfl
  have q1 := hQ4.cell0 1 rfl
  have q2 := hQ4.cell0 2 rfl
  have q3 := hQ4.cell0 3 rfl
  have lf4 : X.f < w4.heap.size := by omega
  have lp4 : w.heap.size < w4.heap.size := by omega
  have lq4 : w.heap.size + 1 < w4.heap.size := by omega
  have HF4 := Lib.hid hF4
  have HR4' := Lib.hid hr4
  have HT4 := Lib.hid hT4
  clear hF4 hP4 hQ4 hr4 hT4 hC4 ht4 HF3 HF2 HP2 HQ2 HR2' HT2
  go_wp2_with fail
  refine wp_region_keep 8 (fun wJ => Below (w4).heap.size (w4) wJ) (by kernel_rfl) (by kernel_rfl) (by (repeat (first | exact Below.refl _ _ | assumption | (with_reducible refine Below.drew ?_) | (with_reducible refine below_drewN' ?_ _) | (with_reducible refine ext_alloc ?_ ?_; · (first | omega | (simp only [World.size_alloc, World.size_setCell, World.size_drew, World.heap_drewN]; omega) | (simp; omega))) | (with_reducible refine ext_setCell ?_ ?_; · (first | omega | (simp only [World.size_alloc, World.size_setCell, World.size_drew, World.heap_drewN]; omega) | (simp; omega))) | (refine ext_call (by assumption) ?_ ?_; · (first | omega | (simp only [World.size_alloc, World.size_setCell, World.size_drew, World.heap_drewN]; omega) | (simp; omega)))))) ?_
  simp only [List.take_succ_cons, List.take_zero, List.drop_succ_cons, List.drop_zero]
  iterate 8 (apply keep_yes; (· rfl); (· (intro w' hJ; (try obtain ⟨hc', hf'⟩ := bcell hJ); refine gives_of (by (go_simp; rfl)) rfl hJ)); simp only [Act.put, List.setIfInBounds_toArray, List.set_cons_zero, List.set_cons_succ])
  refine keep_nil ?_
  intro w5 hb5
  have hF5 := HF4.out.below hb5
  obtain ⟨sl, hm5, hs5⟩ := hF5.found
  have HF5 := Lib.hid hF5
  have HM5 := Lib.hid hm5
  have HS5 := Lib.hid hs5
  clear hF5 hm5 hs5 c6 p0 p1 q0 q1 q2 q3
  go_wp2_with (at_mapUpdate; refine stopT ?_)
  unfold Go.RowKit.Hid
  refine wpl_update rfl _ _ _ _ rfl rfl HM5.out keysP (fun q hq => by obtain ⟨y, hy, rfl⟩ := List.mem_map.1 hq; exact HOK.out.pl y hy) Tryz.underlying97 p rfl ?_ (pageV (t.num (F.seq + 1)) (.slice (some ⟨vb, vo, none⟩) d.length vc)) rfl ?_
  · have hb := num_bounds HF5.out.chip.ok HOK.out.hp
    have hgo := (Geo.ok_iff _).1 HF5.out.chip.ok
    have b2 : F.C.g.B ≤ 20 := hgo.b2
    have p2 : F.C.g.P ≤ 8 := hgo.p2
    have h4 : 0 ≤ p.b ∧ p.b < F.C.g.B ∧ 0 ≤ p.p ∧ p.p < F.C.g.P := ⟨hb.2.2.2.1, hb.2.2.2.2.1, hb.2.2.2.2.2.1, hb.2.2.2.2.2.2⟩
    simp only [ok64]; omega
  intro w6 hM6 hT6 hz6
  have hF6 := HF5.out.put_found HS5.out ⟨p, t.num (F.seq + 1), d⟩ HOK.out.new _ ⟨vb, vo, vc, rfl, HR1.out, HR2.out, HR4'.out.below hb5, HR4.out⟩ hM6 hT6
  have hF7 : FlashAt w6 X (F.prog p b t d) := { hF6 with found := hF6.found.perm (insF_perm _ _ _).symm }
  have hT7 : Turns X.mut w w6 := (HT4.out.trans (Turns.of_below hb5)).trans (hT6.mono (fun k _ hk => by rw [hk]; exact FA.Sep.mf_mut X))
  have hwn := worn67_no hF7.hd HOK.out.lost
  have HF7 := Lib.hid hF7
  have HT7 := Lib.hid hT7
  have HWN := Lib.hid hwn
  clear hF6 hF7 hT7 hwn hM6 hT6 hz6
  go_wp2_with fail
  refine HWN.out.mono ?_
  rintro e w7 ⟨rfl, hb7⟩
  go_wp2_with fail
  go_ret
  exact ⟨rfl, HF7.out.below hb7, HT7.out.trans (Turns.of_below hb7)⟩
end Go.Proofs.YthghhcnpbehaiaaGreat

/- The flash: place, where there is room. -/
namespace Go.Proofs.YthghhcnpbehaiaaGreat
open Go.RowKit

set_option maxHeartbeats 2000000 in
set_option maxRecDepth 100000 in
theorem these121c {w : World} {f : Nat} {A : CA} {C : Chip} (h : Hd w f A C) (q : Nat) (fn : FuncId) (hfn : fn = 194 ∨ fn = 218) (p : Nat → Bool)
    (hp : ∀ wx k, Below w.heap.size w wx → k < C.bk.length → Calls Tryz.prog fn #[i64 (k : Nat), ptr q] wx fun e w' => e = .returned (.bool (p k)) ∧ Below wx.heap.size wx w') :
    Calls Tryz.prog 121 #[ptr f, .func (Fn.func fn) #[] #[ptr q]] w fun e w' => (∃ v, e = .returned v ∧ w'.ownsRow w.heap.size 4 1 v C.bk.length ((these p C.bk.length).map Value.bool)) ∧ Below w.heap.size w w' := by
  have c1 := h.row.cell0 1 rfl
  have hs := h.chip.small
  have hbn := h.chip.bn
  obtain ⟨i0, hi, hz0, hz1, hz2⟩ := info_parts info4
  have HBN := Lib.hid hbn
  clear hbn
  go_enter Tryz.func121, Tryz.ntmps121
  go_wp2_with fail
  go_loopw [5, 12] (fun r i wr => ∃ k : Nat, k ≤ C.bk.length ∧ i = .int .i64 k ∧ Below w.heap.size w wr ∧ wr.ownsRow w.heap.size 4 1 r k ((these p k).map Value.bool)) (fun _ i _ => C.bk.length - (RowKit.intOf i).toNat)
  case atStart => exact ⟨0, Nat.zero_le _, rfl, Below.refl _ _, World.ownsRow_nil _ _ _ _⟩
  case round =>
    obtain ⟨k, hk, rfl, hbr, hown⟩ := hrel
    have k0 : (0 : Int) ≤ (k : Int) := by omega
    have hkw : IntKind.i64.wrap ((k : Int) + 1) = ((k + 1 : Nat) : Int) := by rw [IntWalk.i64_in _ (by omega)]; omega
    have HOWN := Lib.hid hown
    clear hown
    by_cases hlt : (k : Int) < C.g.B
    · have hkl : k < C.bk.length := by have := HBN.out; omega
      have zr := hbr.size
      have HC := Lib.hid (hp _ k hbr hkl)
      rcases hfn with rfl | rfl
      all_goals
        go_wp2_with fail
        refine HC.out.mono ?_
        rintro e w1 ⟨rfl, hb1⟩
        have z1 := hb1.size
        have own1 := own_below' HOWN.out hb1
        have HO1 := Lib.hid own1
        clear own1
        go_wp2_with (at_builtin; refine wpList_append_own _ rfl _ _ 117 rfl w.heap.size 4 i0 (.bool false) 1 1 Tryz.underlying117 hi hz0 hz1 hz2 rfl (by decide) _ _ _ rfl (HO1.out.alloc _) ⟨w1.heap.size, 0, none⟩ 1 1 [Value.bool (p k)] rfl rfl ?c3 ?c4 (by unfold maxLen; omega) (by omega) (by simp; omega) ?_)
        case c3 =>
          intro j u hj
          cases j with
          | zero => cases hj; simp [Addr.add]
          | succ j => simp at hj
        case c4 => intro u hu; simp at hu; subst hu; rfl
        intro v2 w2 hown2 hg2 hnil
        clear hnil
        have hb2 : Below w.heap.size w w2 := ((hbr.trans (hb1.mono zr)).alloc (by omega) _).trans (grown_below hg2 (by simp; omega) (fun g hg' => (HO1.out.lt g hg').1))
        have HO2 := Lib.hid hown2
        clear hown2 hg2
        go_wp2_with fail
        refine ⟨⟨k + 1, by omega, ?_, hb2, ?_⟩, by simp [RowKit.intOf]; omega⟩
        · first | rfl | (congr 1; done) | (congr 1; omega)
        · have := HO2.out
          rw [these, List.range_succ, List.map_append, List.map_append]
          exact this
    · have hkl : k = C.bk.length := by have := HBN.out; omega
      subst hkl
      go_wp2_with fail
      go_ret
      exact ⟨⟨_, rfl, HOWN.out⟩, hbr⟩

/-- Where the next page goes, if there is room. -/
def Chip.openB (C : Chip) : Int := fstOf (fun i => C.isOpen (i : Nat)) C.bk.length
def Chip.freeN (C : Chip) : Nat := cnt (fun i => C.isFree (i : Nat)) C.bk.length
def Chip.goes (C : Chip) : Option Int :=
  if 0 ≤ C.openB then some C.openB else if (2 + C.g.S - C.lost < C.freeN) ∧ 0 ≤ C.fresh then some C.fresh else none

set_option maxHeartbeats 2000000 in
set_option maxRecDepth 100000 in
theorem place159 {w : World} {X : FA} {F : Fl} (h : FlashAt w X F) (o : Int) (ho : F.C.goes = some o) :
    Calls Tryz.prog 159 #[ptr X.f] w fun e w' => e = .returned (.tuple #[.agg #[i64 o, i64 (F.C.usedOf o)], i64 0]) ∧ Below w.heap.size w w' := by
  have hs := h.chip.small
  have c1 := h.row.cell0 1 rfl
  have c2 := h.row.cell0 2 rfl
  have c0 := h.row.cell0 0 rfl
  have hgo := (Geo.ok_iff _).1 h.chip.ok
  have b1 := hgo.b1; have b2 := hgo.b2; have p1 := hgo.p1; have p2 := hgo.p2
  have lf := h.f_lt
  have lf1 : X.f < w.heap.size + 1 := by omega
  have lf2 : X.f < w.heap.size + 1 + 1 := by omega
  have nf0 : X.f ≠ w.heap.size := by omega
  have nf1 : X.f ≠ w.heap.size + 1 := by omega
  obtain ⟨N, hN⟩ : ∃ N : Nat, (N : Int) = F.C.g.B * F.C.g.P := ⟨(F.C.g.B * F.C.g.P).toNat, by have := (geo0 h.chip).1; omega⟩
  have hN0 : 0 < N := by have : 0 < F.C.g.B * F.C.g.P := Int.mul_pos (by omega) (by omega); omega
  have hN1 : N ≤ 160 := by have := (geo0 h.chip).2; omega
  have hmul : IntKind.i64.wrap (F.C.g.B * F.C.g.P) = (N : Int) := by rw [← hN]; exact IntWalk.i64_in _ (by omega)
  have HN := Lib.hid hN
  have HH := Lib.hid h
  have HO := Lib.hid ho
  clear h ho hN hgo
  go_enter Tryz.func159, Tryz.ntmps159
  go_wp2_with fail
  go_quiet (fail)
  have hbW : Below w.heap.size w (((w.alloc (.cells #[ptr X.f] 30)).alloc (.cells #[i64 0, i64 0] 75)).drewN nq) := by (repeat (first | exact Below.refl _ _ | assumption | (with_reducible refine Below.drew ?_) | (with_reducible refine below_drewN' ?_ _) | (with_reducible refine ext_alloc ?_ ?_; · (first | omega | (simp only [World.size_alloc, World.size_setCell, World.size_drew, World.heap_drewN]; omega) | (simp; omega))) | (with_reducible refine ext_setCell ?_ ?_; · (first | omega | (simp only [World.size_alloc, World.size_setCell, World.size_drew, World.heap_drewN]; omega) | (simp; omega))) | (refine ext_call (by assumption) ?_ ?_; · (first | omega | (simp only [World.size_alloc, World.size_setCell, World.size_drew, World.heap_drewN]; omega) | (simp; omega)))))
  have hqW : (((w.alloc (.cells #[ptr X.f] 30)).alloc (.cells #[i64 0, i64 0] 75)).drewN nq).cell? ⟨w.heap.size, 0, none⟩ = some (ptr X.f) := by
    show ((w.alloc (.cells #[ptr X.f] 30)).alloc (.cells #[i64 0, i64 0] 75)).cell? _ = _
    exact keepa (by simp)
  have hrW : Row (((w.alloc (.cells #[ptr X.f] 30)).alloc (.cells #[i64 0, i64 0] 75)).drewN nq) (w.heap.size + 1) 0 [i64 0, i64 0] := by
    have := (Row.new (w.alloc (.cells #[ptr X.f] 30)) #[i64 0, i64 0] 75).below (below_drewN' (Below.refl _ _) nq)
    simpa using this
  have hzW : (((w.alloc (.cells #[ptr X.f] 30)).alloc (.cells #[i64 0, i64 0] 75)).drewN nq).heap.size = w.heap.size + 2 := by simp [World.heap_drewN]
  generalize ((w.alloc (.cells #[ptr X.f] 30)).alloc (.cells #[i64 0, i64 0] 75)).drewN nq = W at *
  have zW : w.heap.size + 2 ≤ W.heap.size := by omega
  clear hzW c1 c2 c0
  have HBW := Lib.hid hbW
  have HRW := Lib.hid hrW
  clear hbW hrW
  go_wp2_with fail
  go_loopw [17] (fun i wr => i = .int .i64 0 ∧ wr = W) (fun i _ => 0)
  case atStart => exact ⟨rfl, rfl⟩
  case round =>
    obtain ⟨rfl, rfl⟩ := hrel
    have hH := (HH.out.below HBW.out).hd
    have HHD := Lib.hid hH
    clear hH
    go_wp2_with fail
    refine (these121c HHD.out w.heap.size 194 (.inl rfl) (fun i => F.C.isOpen (i : Nat)) (fun wx k hb hk => open194 (HHD.out.below hb) k hk w.heap.size (keepc hb hqW))).mono ?_
    rintro e w1 ⟨⟨v1, rfl, own1⟩, hb1⟩
    obtain ⟨g1, c1, rfl⟩ := own_some own1 (by intro e; subst e; rcases own1.2 with ⟨_, h0⟩ | ⟨_, _, _, h0, _⟩; omega; cases h0)
    have r1 := own_rowE own1
    have R1 := Lib.hid r1
    have z1 := hb1.size
    have hq1 := keepc hb1 hqW
    clear own1 r1 hqW
    go_wp2_with fail
    refine (index193 (fun i => F.C.isOpen (i : Nat)) F.C.bk.length (by omega) g1 c1 w1 R1.out).mono ?_
    rw [show fstOf (fun i => F.C.isOpen (i : Nat)) F.C.bk.length = F.C.openB from rfl]
    rintro e w2 ⟨rfl, rfl⟩
    have HH1 := Lib.hid (HHD.out.below hb1)
    have lq1 : w.heap.size < w1.heap.size := by omega
    have hor : F.C.openB = -1 ∨ 0 ≤ F.C.openB := by
      unfold Chip.openB fstOf
      cases (List.range F.C.bk.length).find? (fun i => F.C.isOpen (i : Nat)) <;> simp <;> omega
    by_cases h0 : 0 ≤ F.C.openB
    · have ho : o = F.C.openB := by have := HO.out; simp only [Chip.goes, h0, if_true, Option.some.injEq] at this; exact this.symm
      have HOO := Lib.hid ho
      clear ho hor
      generalize F.C.openB = m at *
      have hm : (decide (m < 0)) = false := by simpa using h0
      go_wp2_with fail
      refine wp_region_keep 10 (fun wJ => Below (w1).heap.size (w1) wJ) (by kernel_rfl) (by kernel_rfl) (by (repeat (first | exact Below.refl _ _ | assumption | (with_reducible refine Below.drew ?_) | (with_reducible refine below_drewN' ?_ _) | (with_reducible refine ext_alloc ?_ ?_; · (first | omega | (simp only [World.size_alloc, World.size_setCell, World.size_drew, World.heap_drewN]; omega) | (simp; omega))) | (with_reducible refine ext_setCell ?_ ?_; · (first | omega | (simp only [World.size_alloc, World.size_setCell, World.size_drew, World.heap_drewN]; omega) | (simp; omega))) | (refine ext_call (by assumption) ?_ ?_; · (first | omega | (simp only [World.size_alloc, World.size_setCell, World.size_drew, World.heap_drewN]; omega) | (simp; omega)))))) ?_
      simp only [List.take_succ_cons, List.take_zero, List.drop_succ_cons, List.drop_zero]
      iterate 3 (apply keep_yes; (· rfl); (· (intro w' hJ; (try obtain ⟨hc', hf'⟩ := bcell hJ); refine gives_of (by (go_simp; rfl)) rfl hJ)); simp only [Act.put, List.setIfInBounds_toArray, List.set_cons_zero, List.set_cons_succ])
      iterate 7 (refine keep_no (by rfl) ?_; simp only [Act.put, List.setIfInBounds_toArray, List.set_cons_zero, List.set_cons_succ])
      refine keep_nil ?_
      intro w2 hb2
      have z2 := hb2.size
      have hq2 := keepc hb2 hq1
      have HH2 := Lib.hid (HH1.out.below hb2)
      have c0 := HH2.out.row.cell0 0 rfl
      have HR2 := Lib.hid ((HRW.out.below hb1).below hb2)
      have hW2 : Below w.heap.size w w2 := ((HBW.out.trans (hb1.mono (by omega))).trans (hb2.mono (by omega)))
      have HW2 := Lib.hid hW2
      clear hW2 hq1
      go_wp2_with fail
      refine (used153 HH2.out.chip m).mono ?_
      rintro e w3 ⟨rfl, hb3⟩
      have z3 := hb3.size
      have hr3 := HR2.out.below hb3
      have HR3 := Lib.hid hr3
      have s0 := hr3.cell0 0 rfl
      have s1 := hr3.cell0 1 rfl
      have u0 := hr3.free0 0 rfl
      have u1 := hr3.free0 1 rfl
      clear hr3 c0
      go_wp2_with fail
      have hrE := (HR3.out.setCell 0 (i64 m)).setCell 1 (i64 (F.C.usedOf m))
      have e0 := hrE.cell0 0 rfl
      have e1 := hrE.cell0 1 rfl
      simp only [Nat.zero_add, Nat.add_zero] at e0 e1
      clear hrE s0 s1 u0 u1
      exact bodyPost_ret (v := .tuple #[.agg #[i64 m, i64 (F.C.usedOf m)], i64 0]) (by simp [results, Tryz.results159, go_sem, e0, e1]) rfl ⟨by rw [HOO.out], ext_setCell (by simp) (ext_setCell (by simp) (ext_call hb3 (by omega) HW2.out))⟩
    · have hm1 : F.C.openB = -1 := by omega
      have hfr : 2 + F.C.g.S - F.C.lost < F.C.freeN ∧ 0 ≤ F.C.fresh ∧ o = F.C.fresh := by
        have := HO.out
        simp only [Chip.goes, h0, if_false] at this
        split at this
        · rename_i hc; exact ⟨hc.1, hc.2, by simpa using this.symm⟩
        · cases this
      rw [hm1]
      clear hm1 hor h0
      obtain ⟨hf1, hf2, hf3⟩ := hfr
      have hlt' : (decide (2 + F.C.g.S - (F.C.lost : Int) < (F.C.freeN : Int))) = true := by simpa using hf1
      have hH1 := HH1.out
      have hmany := fun W (hb : Below w1.heap.size w1 W) => many113 (hH1.below hb) 114 (.inl rfl) (fun i => F.C.isFree (i : Nat)) (fun wx k hb2 hk => free114 ((hH1.below hb).below hb2) k hk)
      have htar := fun W (hb : Below w1.heap.size w1 W) => target115 (hH1.below hb)
      have HMA := Lib.hid hmany
      have HTA := Lib.hid htar
      have HOO := Lib.hid hf3
      have hlt2 : 2 + F.C.g.S - (F.C.lost : Int) < ((cnt (fun i => F.C.isFree (i : Nat)) F.C.bk.length : Nat) : Int) := hf1
      clear hmany htar hH1 hf3 hf1 hlt'
      go_wp2_with fail
      refine wp_region_keep 10 (fun wJ => Below (w1).heap.size (w1) wJ) (by kernel_rfl) (by kernel_rfl) (by (repeat (first | exact Below.refl _ _ | assumption | (with_reducible refine Below.drew ?_) | (with_reducible refine below_drewN' ?_ _) | (with_reducible refine ext_alloc ?_ ?_; · (first | omega | (simp only [World.size_alloc, World.size_setCell, World.size_drew, World.heap_drewN]; omega) | (simp; omega))) | (with_reducible refine ext_setCell ?_ ?_; · (first | omega | (simp only [World.size_alloc, World.size_setCell, World.size_drew, World.heap_drewN]; omega) | (simp; omega))) | (refine ext_call (by assumption) ?_ ?_; · (first | omega | (simp only [World.size_alloc, World.size_setCell, World.size_drew, World.heap_drewN]; omega) | (simp; omega)))))) ?_
      simp only [List.take_succ_cons, List.take_zero, List.drop_succ_cons, List.drop_zero]
      iterate 6 (apply keep_yes; (· rfl); (· (intro w' hJ; (try obtain ⟨hc', hf'⟩ := bcell hJ); refine gives_of (by (go_simp; rfl)) rfl hJ)); simp only [Act.put, List.setIfInBounds_toArray, List.set_cons_zero, List.set_cons_succ])
      (apply keep_yes; (· rfl); (· (intro w' hJ; refine gives_call (v := i64 (cnt (fun i => F.C.isFree (i : Nat)) F.C.bk.length)) (by (go_simp; first | rfl | exact ⟨⟨rfl, rfl⟩, rfl⟩)) ?_; refine (HMA.out _ hJ).mono ?_; rintro e w'' ⟨rfl, hbx⟩; exact ⟨rfl, ext_call hbx hJ.size hJ⟩)); simp only [Act.put, List.setIfInBounds_toArray, List.set_cons_zero, List.set_cons_succ])
      (apply keep_yes; (· rfl); (· (intro w' hJ; (try obtain ⟨hc', hf'⟩ := bcell hJ); refine gives_of (by (go_simp; rfl)) rfl hJ)); simp only [Act.put, List.setIfInBounds_toArray, List.set_cons_zero, List.set_cons_succ])
      (apply keep_yes; (· rfl); (· (intro w' hJ; refine gives_call (v := i64 (2 + F.C.g.S - F.C.lost)) (by (go_simp; first | rfl | exact ⟨⟨rfl, rfl⟩, rfl⟩)) ?_; refine (HTA.out _ hJ).mono ?_; rintro e w'' ⟨rfl, hbx⟩; exact ⟨rfl, ext_call hbx hJ.size hJ⟩)); simp only [Act.put, List.setIfInBounds_toArray, List.set_cons_zero, List.set_cons_succ])
      (apply keep_yes; (· rfl); (· (intro w' hJ; refine gives_of (v := .bool true) (u := .bool true) (by go_simp) rfl hJ)); simp only [Act.put, List.setIfInBounds_toArray, List.set_cons_zero, List.set_cons_succ])
      refine keep_nil ?_
      intro w2 hb2
      have z2 := hb2.size
      have hq2 := keepc hb2 hq1
      have HH2 := Lib.hid (HH1.out.below hb2)
      have HR2 := Lib.hid ((HRW.out.below hb1).below hb2)
      have hW2 : Below w.heap.size w w2 := ((HBW.out.trans (hb1.mono (by omega))).trans (hb2.mono (by omega)))
      have HW2 := Lib.hid hW2
      clear hW2 hq1 hlt2
      go_wp2_with fail
      refine (fresh163 HH2.out).mono ?_
      rw [← HOO.out]
      rintro e w3 ⟨rfl, hb3⟩
      have z3 := hb3.size
      have HH3 := Lib.hid (HH2.out.below hb3)
      have HR3' := Lib.hid (HR2.out.below hb3)
      have hq3 := keepc hb3 hq2
      have c0 := HH3.out.row.cell0 0 rfl
      have HW3 := Lib.hid (ext_call hb3 (by omega) HW2.out)
      have hm0 : 0 ≤ o := by have := HOO.out; omega
      clear hf2 hq2
      obtain ⟨m, hmo⟩ : ∃ m, m = o := ⟨_, rfl⟩
      subst hmo
      go_wp2_with fail
      refine (used153 HH3.out.chip m).mono ?_
      rintro e w4 ⟨rfl, hb4⟩
      have z4 := hb4.size
      have HR3 := Lib.hid (HR3'.out.below hb4)
      have s0 := HR3.out.cell0 0 rfl
      have s1 := HR3.out.cell0 1 rfl
      have u0 := HR3.out.free0 0 rfl
      have u1 := HR3.out.free0 1 rfl
      clear c0
      go_wp2_with fail
      have hrE := (HR3.out.setCell 0 (i64 m)).setCell 1 (i64 (F.C.usedOf m))
      have e0 := hrE.cell0 0 rfl
      have e1 := hrE.cell0 1 rfl
      simp only [Nat.zero_add, Nat.add_zero] at e0 e1
      clear hrE s0 s1 u0 u1
      exact bodyPost_ret (v := .tuple #[.agg #[i64 m, i64 (F.C.usedOf m)], i64 0]) (by simp [results, Tryz.results159, go_sem, e0, e1]) rfl ⟨rfl, ext_setCell (by simp) (ext_setCell (by simp) (ext_call hb4 (by omega) HW3.out))⟩
end Go.Proofs.YthghhcnpbehaiaaGreat

/- The flash: put, where there is room. -/
namespace Go.Proofs.YthghhcnpbehaiaaGreat
open Go.RowKit

def Tag.at (t : Tag) (n : Int) : Tag := { t with epoch := n }

set_option maxHeartbeats 2000000 in
set_option maxRecDepth 100000 in
theorem put119 {w : World} {X : FA} {F : Fl} (h : FlashAt w X F) (t : Tag) (d : List Int) (v : Value) (hv : BytesAt X.mut w v d) (o : Int) (ho : F.C.goes = some o) (b : Blk) (hok : ProgOk F ⟨o, F.C.usedOf o⟩ b (t.at F.now) d) :
    Calls Tryz.prog 119 #[ptr X.f, .agg #[i64 t.kind, i64 t.page, i64 t.seq, i64 t.epoch], v] w fun e w' => e = .returned (i64 0) ∧ FlashAt w' X (F.prog ⟨o, F.C.usedOf o⟩ b (t.at F.now) d) ∧ Turns X.mut w w' := by
  have hpl := fun W (hb : Below w.heap.size w W) => place159 (h.below hb) o ho
  have HPL := Lib.hid hpl
  have HH := Lib.hid h
  have HV := Lib.hid hv
  have HOK := Lib.hid hok
  have lf := h.f_lt
  clear hpl h hv hok ho
  go_enter Tryz.func119, Tryz.ntmps119
  go_wp2_with fail
  refine (HPL.out _ (by (repeat (first | exact Below.refl _ _ | assumption | (with_reducible refine Below.drew ?_) | (with_reducible refine below_drewN' ?_ _) | (with_reducible refine ext_alloc ?_ ?_; · (first | omega | (simp only [World.size_alloc, World.size_setCell, World.size_drew, World.heap_drewN]; omega) | (simp; omega))) | (with_reducible refine ext_setCell ?_ ?_; · (first | omega | (simp only [World.size_alloc, World.size_setCell, World.size_drew, World.heap_drewN]; omega) | (simp; omega))) | (refine ext_call (by assumption) ?_ ?_; · (first | omega | (simp only [World.size_alloc, World.size_setCell, World.size_drew, World.heap_drewN]; omega) | (simp; omega))))))).mono ?_
  rintro e w1 ⟨rfl, hb1⟩
  have z1 := hb1.size
  simp only [World.size_alloc] at z1
  have h01 : Below w.heap.size w w1 := by (repeat (first | exact Below.refl _ _ | assumption | (with_reducible refine Below.drew ?_) | (with_reducible refine below_drewN' ?_ _) | (with_reducible refine ext_alloc ?_ ?_; · (first | omega | (simp only [World.size_alloc, World.size_setCell, World.size_drew, World.heap_drewN]; omega) | (simp; omega))) | (with_reducible refine ext_setCell ?_ ?_; · (first | omega | (simp only [World.size_alloc, World.size_setCell, World.size_drew, World.heap_drewN]; omega) | (simp; omega))) | (refine ext_call (by assumption) ?_ ?_; · (first | omega | (simp only [World.size_alloc, World.size_setCell, World.size_drew, World.heap_drewN]; omega) | (simp; omega)))))
  have hF1 := HH.out.below h01
  have c12 : w1.cell? ⟨X.f, 12, none⟩ = some (i64 F.now) := hF1.row.cell0 12 rfl
  have hr1 : Row w1 w.heap.size 0 [i64 t.kind, i64 t.page, i64 t.seq, i64 t.epoch] := (Row.new w #[i64 t.kind, i64 t.page, i64 t.seq, i64 t.epoch] 105).below hb1
  have q0 := hr1.cell0 0 rfl
  have q1 := hr1.cell0 1 rfl
  have q2 := hr1.cell0 2 rfl
  have q3 := hr1.cell0 3 rfl
  have u3 := hr1.free0 3 rfl
  have lw : w.heap.size < w1.heap.size := by omega
  have lf1 : X.f < w1.heap.size := by omega
  have HF1 := Lib.hid hF1
  have H01 := Lib.hid h01
  have nfw : X.f ≠ w.heap.size := by omega
  clear hF1 hr1 h01
  go_wp2_with fail
  have hTw : Turns (fun k => k = w.heap.size) w1 ((w1.setCell ⟨w.heap.size, 3, none⟩ (i64 F.now)).alloc (.cells #[i64 o, i64 (F.C.usedOf o)] 75)) := by
    have hx : (fun k : Nat => k = w.heap.size) w.heap.size := rfl
    exact (Turns.setCell (Turns.refl _ w1) (.inl hx) _).alloc _
  have hnm : ∀ k, X.mut k → k ≠ w.heap.size := fun k hk e => by have := HH.out.mut_lt hk; omega
  have hF2 : FlashAt ((w1.setCell ⟨w.heap.size, 3, none⟩ (i64 F.now)).alloc (.cells #[i64 o, i64 (F.C.usedOf o)] 75)) X F :=
    HH.out.below (H01.out.trans (hTw.belowN (fun k hk => by subst hk; exact Nat.le_refl _) (by omega)))
  have hV2 := HV.out.below (H01.out.trans (hTw.belowN (fun k hk => by subst hk; exact Nat.le_refl _) (by omega)))
  have hpr := program160 hF2 ⟨o, F.C.usedOf o⟩ b (t.at F.now) d v hV2 HOK.out
  have hT2 : Turns X.mut w ((w1.setCell ⟨w.heap.size, 3, none⟩ (i64 F.now)).alloc (.cells #[i64 o, i64 (F.C.usedOf o)] 75)) := Turns.of_below (H01.out.trans (hTw.belowN (fun k hk => by subst hk; exact Nat.le_refl _) (by omega)))
  have HT2 := Lib.hid hT2
  have HPR := Lib.hid hpr
  clear hTw hF2 hV2 hT2 hpr c12 q0 q1 q2 q3 u3
  refine HPR.out.mono ?_
  rintro e w3 ⟨rfl, hF3, hT3⟩
  have HF3 := Lib.hid hF3
  have HT3 := Lib.hid (HT2.out.trans hT3)
  clear hF3 hT3
  go_wp2_with fail
  go_ret
  exact ⟨rfl, HF3.out, HT3.out⟩
end Go.Proofs.YthghhcnpbehaiaaGreat
