/- FlashAsks, walked: a geometry that may be. -/
import Derived.Test.YthghhcnpbehaiaaGreatFa44
import Derived.Test.YthghhcnpbehaiaaGreatFa45

namespace Go.Proofs.YthghhcnpbehaiaaGreat
open Go.RowKit

theorem lent_below {w w' : World} {B n : Nat} {l : List Int} (h : LentAt w B l n) (hb : Below w.heap.size w w') : LentAt w' B l n := ⟨(hb.block _ (heap_lt h.1)).trans h.1, h.2⟩
theorem lent_turns {M : Nat → Prop} {w w' : World} {B n : Nat} {l : List Int} (h : LentAt w B l n) (ht : Turns M w w') (hB : ¬ M B) : LentAt w' B l n := ⟨(ht.block _ (heap_lt h.1) hB).trans h.1, h.2⟩
theorem lent_own {w : World} {B n : Nat} {l : List Int} (h : LentAt w B l n) (hn : n ≤ 200) : OwnBytes w B n (n + 3) := ⟨_, h.1, by simp [h.2], by omega, by unfold maxLen; omega⟩
theorem ob_below {w w' : World} {B n cap : Nat} (h : OwnBytes w B n cap) (hb : Below w.heap.size w w') : OwnBytes w' B n cap := by
  obtain ⟨arr, h1, h2⟩ := h
  exact ⟨arr, (hb.block _ (heap_lt h1)).trans h1, h2⟩
theorem own_bytes {w : World} {base n : Nat} {v : Value} {xs : List Value} (h : w.ownsRow base 5 1 v n xs) (hn : 0 < n) : ∃ g cap, v = .slice (some ⟨g, 0, none⟩) n cap ∧ base ≤ g ∧ OwnBytes w g n cap := by
  obtain ⟨hl, ⟨rfl, rfl⟩ | ⟨g, cap, cur, rfl, hb, hh, hc1, hc2, hs', ht⟩⟩ := h
  · omega
  · exact ⟨g, cap, rfl, hb, cur.toList, by simpa using hh, by simpa using hs', hc1, hc2⟩


set_option maxHeartbeats 2000000 in
set_option maxRecDepth 100000 in
theorem asks10_neg (g : Geo) (hg : g.okB = true) (n : Int) (hn : ok64 n) (d : List Int) (m : Nat) (hd : d.length = m) (hm : m ≤ 200) (A : Option Addr) (cap : Nat) (w : World) (hv : SlAt w (.slice A m cap) m (d.map u8)) (hno : n < 0) :
    Calls Tryz.prog 10 #[.agg #[i64 g.B, i64 g.P, i64 g.Y, i64 g.S, i64 g.T], i64 n, .slice A m cap] w fun e w' => e = .returned (.bool true) ∧ Below w.heap.size w w' := by
  have hmi : ¬ (200 : Int) < (m : Int) := by omega
  have hgo := (Geo.ok_iff _).1 hg
  have y1 := hgo.y1
  have y2 := hgo.y2
  have hlb := logical_bounds hg
  have hfl : (FN g).logical = g.logical := rfl
  have hcg : (FN g).C.g = g := rfl
  have hcy : (FN g).C.g.Y = g.Y := rfl
  have hoff : (FN g).C.off = false := rfl
  have hdgr : (FN g).deg = false := rfl
  have hops := FN_ops hg
  have hop1 := hops.1
  have hop2 := hops.2
  have hget := FN_get g n
  have hfx := fun (E : Nat → Prop) (w : World) (X : FA) (h : FlashAt w X (FN g)) => FlashX.of_empty (E := E) h (FN_fd g) (FN_base g) (FN_pend g)
  have hpd : ∀ k, (FN g).pend k ≠ none → 0 ≤ k ∧ k < 1000 := fun k h => absurd (FN_pend g k) h
  have hcuts : (FN g).C.cuts = 0 := rfl
  have hturn : (FN g).C.turn = 0 := rfl
  have has : (FN g).asked n = if 0 ≤ n ∧ n < g.logical then 0 else 2 := by simp [Fl.asked, hoff, hfl]
  have hmn := fun (w : World) (A : CA) => mount_new (w := w) (A := A) hg
  generalize FN g = F at *
  have HV := Lib.hid hv
  have HFX := Lib.hid hfx
  have HMN := Lib.hid hmn
  have HPD := Lib.hid hpd
  have HOFF := Lib.hid hoff
  have HDG := Lib.hid hdgr
  have HGET := Lib.hid hget
  have HCUT := Lib.hid hcuts
  have HTU := Lib.hid hturn
  have HGO := Lib.hid hgo
  have hgl := hfl
  generalize g.logical = lg at *
  clear hv hfx hmn hpd hoff hdgr hget hcuts hturn hgo hops
  have has2 : F.asked n = 2 := by rw [has, if_neg (by omega)]
  clear has
  go_enter Tryz.func10, Tryz.ntmps10
  go_wp2_with fail
  have row0 : Row (w.alloc (.cells #[i64 g.B, i64 g.P, i64 g.Y, i64 g.S, i64 g.T] 23)) w.heap.size 0 [i64 g.B, i64 g.P, i64 g.Y, i64 g.S, i64 g.T] := Row.new _ _ _
  have bel0 : Below w.heap.size w (w.alloc (.cells #[i64 g.B, i64 g.P, i64 g.Y, i64 g.S, i64 g.T] 23)) := by (repeat (first | exact Below.refl _ _ | assumption | (with_reducible refine Below.drew ?_) | (with_reducible refine below_drewN' ?_ _) | (with_reducible refine ext_alloc ?_ ?_; · (first | omega | (simp only [World.size_alloc, World.size_setCell, World.size_drew, World.heap_drewN]; omega) | (simp; omega))) | (with_reducible refine ext_setCell ?_ ?_; · (first | omega | (simp only [World.size_alloc, World.size_setCell, World.size_drew, World.heap_drewN]; omega) | (simp; omega))) | (refine ext_call (by assumption) ?_ ?_; · (first | omega | (simp only [World.size_alloc, World.size_setCell, World.size_drew, World.heap_drewN]; omega) | (simp; omega)))))
  have s0 : (w.alloc (.cells #[i64 g.B, i64 g.P, i64 g.Y, i64 g.S, i64 g.T] 23)).heap.size = w.heap.size + 1 := by simp
  generalize w.alloc (.cells #[i64 g.B, i64 g.P, i64 g.Y, i64 g.S, i64 g.T] 23) = W0 at *
  have BEL0 := Lib.hid bel0
  have S0 := Lib.hid s0
  have lw0 : w.heap.size < W0.heap.size := by omega
  have hcy2 : ∀ W : World, Below W0.heap.size W0 W → W.cell? ⟨w.heap.size, 2, none⟩ = some (i64 g.Y) := fun W hb => (row0.below hb).cell0 2 rfl
  have HCY := Lib.hid hcy2
  clear bel0 s0 row0 hcy2
  refine (new14 g W0 hg).mono ?_
  rintro e w1 ⟨⟨A1, rfl, hC1, hA1, hfA⟩, hb1⟩
  have z1 := hb1.size
  go_wp2_with fail
  refine (HMN.out w1 A1 hC1 hfA).mono ?_
  rintro e w2 ⟨X, rfl, hXA, hXm, hF2, hT2⟩
  have z2 := hT2.size
  subst hXA
  have B2 := Lib.hid (ext_turns hb1 z1 hT2 hA1)
  have hxm : ∀ k, X.mut k → W0.heap.size ≤ k := fun k hk => (hXm k hk).elim (hA1 k) (fun h => by omega)
  have hB : ¬ X.mut w2.heap.size := fun hk => by have := hF2.mut_lt hk; omega
  have HF2 := Lib.hid hF2
  have HXM := Lib.hid hxm
  have HB := Lib.hid hB
  have HFA := Lib.hid hfA
  clear hC1 hA1 hXm hF2 hT2 hb1 hxm hB hfA
  have d2 := HCY.out w2 B2.out
  go_wp2_with fail
  refine (lend39 d m hd hm A cap w2 (HV.out.below (ext_call B2.out (by omega) BEL0.out))).mono ?_
  rintro e w3 ⟨rfl, hlt, hb3⟩
  have z3 := hb3.size
  have B3 := Lib.hid (ext_call hb3 (by have := B2.out.size; omega) B2.out)
  have hbx : ¬ X.mut w2.heap.size := fun hk => by have := HF2.out.mut_lt hk; omega
  have HBX := Lib.hid hbx
  have HF3 := Lib.hid (HF2.out.below hb3)
  have bx0 : W0.heap.size ≤ w2.heap.size := B2.out.size
  have bx1 : w2.heap.size < w3.heap.size := heap_lt hlt.1
  have LT3 := Lib.hid hlt
  clear hlt hb3 hbx
  generalize w2.heap.size = bx at *
  go_wp2_with fail
  refine ((read33_bad HF3.out n (by rw [has2]; decide)).mono fun e w' h => (by rw [has2] at h; exact h : e = .returned (.tuple #[.slice none 0 0, i64 2]) ∧ _)).mono ?_
  rintro e w4 ⟨rfl, hb4⟩
  have z4 := hb4.size
  have B4 := Lib.hid (ext_call hb4 (by have := B3.out.size; omega) B3.out)
  have HF4 := Lib.hid (HF3.out.below hb4)
  have LT4 := Lib.hid (lent_below LT3.out hb4)
  clear hb4
  go_wp2_with fail
  refine ((trim30_bad HF4.out n (by rw [has2]; decide)).mono fun e w' h => (by rw [has2] at h; exact h : e = .returned (i64 2) ∧ _)).mono ?_
  rintro e w5 ⟨rfl, hb5⟩
  have z5 := hb5.size
  have B5 := Lib.hid (ext_call hb5 (by have := B4.out.size; omega) B4.out)
  have HF5 := Lib.hid (HF4.out.below hb5)
  have LT5 := Lib.hid (lent_below LT4.out hb5)
  clear hb5
  go_wp2_with fail
  refine ((write18_bad HF5.out n (by rw [has2]; decide) _).mono fun e w' h => (by rw [has2] at h; exact h : e = .returned (i64 2) ∧ _)).mono ?_
  rintro e w6 ⟨rfl, hb6⟩
  have z6 := hb6.size
  have B6 := Lib.hid (ext_call hb6 (by have := B5.out.size; omega) B5.out)
  have HF6 := Lib.hid (HF5.out.below hb6)
  have LT6 := Lib.hid (lent_below LT5.out hb6)
  clear hb6
  go_wp2_with fail
  have hkp := kept40 d d m m hd hm bx A cap w6 LT6.out (HV.out.below (ext_call B6.out (by omega) BEL0.out))
  rw [decide_eq_true (rfl : d = d)] at hkp
  have HKP := Lib.hid hkp
  clear hkp
  refine HKP.out.mono ?_
  rintro e w7 ⟨rfl, hb7⟩
  have z7 := hb7.size
  have B7 := Lib.hid (ext_call hb7 (by have := B6.out.size; omega) B6.out)
  have HF7 := Lib.hid (HF6.out.below hb7)
  have LT7 := Lib.hid (lent_below LT6.out hb7)
  clear HKP hb7
  go_wp2_with fail
  have HX7 := Lib.hid (HFX.out (· = bx) w7 X HF7.out (fun j hj => by rw [hj]; exact ⟨HBX.out, heap_lt LT7.out.1⟩) HFA.out)
  refine (over41 bx m (m + 3) (by omega) w7 (lent_own LT7.out hm)).mono ?_
  rintro e w8 ⟨rfl, ht8⟩
  have z8 := ht8.size
  have B8 := Lib.hid (ext_turns B7.out (by have := B7.out.size; omega) ht8 (fun j hj => by rw [hj]; exact bx0))
  have HF8 := Lib.hid (HX7.out.turns ht8)
  clear ht8
  go_wp2_with fail
  refine ((read33_bad HF8.out n (by rw [has2]; decide)).mono fun e w' h => (by rw [has2] at h; exact h : e = .returned (.tuple #[.slice none 0 0, i64 2]) ∧ _)).mono ?_
  rintro e w9 ⟨rfl, hb9⟩
  have z9 := hb9.size
  have B9 := Lib.hid (ext_call hb9 (by have := B8.out.size; omega) B8.out)
  have HF9 := Lib.hid (HF8.out.below hb9)
  clear hb9
  go_wp2_with fail
  refine (over41_nil w9).mono ?_
  rintro e w10 ⟨rfl, hb10⟩
  have z10 := hb10.size
  have B10 := Lib.hid (ext_call hb10 (by have := B9.out.size; omega) B9.out)
  have HF10 := Lib.hid (HF9.out.below hb10)
  clear hb10
  go_wp2_with fail
  have har := arm42 HF10.out.chip HOFF.out (by omega)
  refine har.mono ?_
  rintro e w11 ⟨rfl, hch, ht11⟩
  clear har
  have z11 := ht11.size
  have hxf : ∀ j, X.A.foot j → W0.heap.size ≤ j := fun j hj => HXM.out j (.inl hj)
  have B11 := Lib.hid (ext_turns B10.out (by have := B10.out.size; omega) ht11 hxf)
  have HF11 := Lib.hid (HF10.out.chipped hch rfl ht11)
  clear ht11 hch
  go_wp2_with fail
  have hrc := read43_cut HF11.out.chip (by show Geo.isB F.C.g ⟨0, 0⟩ = true; rw [hcg]; exact isB_00 hg) HOFF.out rfl (by show F.C.ops < _; omega) (by show 0 ≤ F.C.cuts ∧ F.C.cuts < 1000; rw [HCUT.out]; omega)
  refine hrc.mono ?_
  rintro e w12 ⟨rfl, hch, ht12⟩
  clear hrc
  have z12 := ht12.size
  have B12 := Lib.hid (ext_turns B11.out (by have := B11.out.size; omega) ht12 hxf)
  have hFo := HF11.out.chipped hch rfl ht12
  have hoff2 : ({ ({ F with C := F.C.armed } : Fl) with C := F.C.armed.cut } : Fl).C.off = true := rfl
  generalize ({ ({ F with C := F.C.armed } : Fl) with C := F.C.armed.cut } : Fl) = G2 at *
  have has9 : ∀ j, G2.asked j = 9 := fun j => by simp [Fl.asked, hoff2]
  have hn9 : (9 : Int) ≠ 0 := by decide
  have HF12 := Lib.hid hFo
  have hco := HF12.out.chip
  clear ht12 hch hFo hco
  go_wp2_with fail
  refine ((read33_bad HF12.out 0 (by rw [has9]; decide)).mono fun e w' h => (by rw [has9] at h; exact h : e = .returned (.tuple #[.slice none 0 0, i64 9]) ∧ _)).mono ?_
  rintro e w13 ⟨rfl, hb13⟩
  have z13 := hb13.size
  have B13 := Lib.hid (ext_call hb13 (by have := B12.out.size; omega) B12.out)
  have HF13 := Lib.hid (HF12.out.below hb13)
  clear hb13
  go_wp2_with fail
  refine (mount15_off HF13.out.chip hoff2).mono ?_
  rintro e w14 ⟨rfl, hb14⟩
  have z14 := hb14.size
  have B14 := Lib.hid (ext_call hb14 (by have := B13.out.size; omega) B13.out)
  have HF14 := Lib.hid (HF13.out.below hb14)
  clear hb14
  have d14 := HCY.out w14 B14.out
  obtain ⟨Y, hY⟩ : ∃ Y : Nat, g.Y = Y := ⟨g.Y.toNat, by omega⟩
  rw [hY] at d14
  go_wp2_with fail
  refine (data19 1 (by omega) Y (by omega) w14).mono ?_
  rintro e w15 ⟨rfl, -, hb15⟩
  have z15 := hb15.size
  have B15 := Lib.hid (ext_call hb15 (by have := B14.out.size; omega) B14.out)
  have HF15 := Lib.hid (HF14.out.below hb15)
  clear hb15
  go_wp2_with fail
  refine ((write18_bad HF15.out 0 (by rw [has9]; decide) _).mono fun e w' h => (by rw [has9] at h; exact h : e = .returned (i64 9) ∧ _)).mono ?_
  rintro e w16 ⟨rfl, hb16⟩
  have z16 := hb16.size
  have B16 := Lib.hid (ext_call hb16 (by have := B15.out.size; omega) B15.out)
  have HF16 := Lib.hid (HF15.out.below hb16)
  clear hb16
  go_wp2_with fail
  refine ((trim30_bad HF16.out 0 (by rw [has9]; decide)).mono fun e w' h => (by rw [has9] at h; exact h : e = .returned (i64 9) ∧ _)).mono ?_
  rintro e w17 ⟨rfl, hb17⟩
  have z17 := hb17.size
  have B17 := Lib.hid (ext_call hb17 (by have := B16.out.size; omega) B16.out)
  have HF17 := Lib.hid (HF16.out.below hb17)
  clear hb17
  go_wp2_with fail
  refine (flush20_off HF17.out hoff2).mono ?_
  rintro e w18 ⟨rfl, hb18⟩
  have z18 := hb18.size
  have B18 := Lib.hid (ext_call hb18 (by have := B17.out.size; omega) B17.out)
  have HF18 := Lib.hid (HF17.out.below hb18)
  clear hb18
  go_wp2_with fail
  refine (awake13 w18).mono ?_
  rintro e w19 ⟨rfl, hb19⟩
  have B19 := ext_call hb19 (by have := B18.out.size; omega) B18.out
  go_wp2_with fail
  go_ret
  exact ⟨rfl, ext_call B19 (by omega) BEL0.out⟩

set_option maxHeartbeats 2000000 in
set_option maxRecDepth 100000 in
theorem asks10_big (g : Geo) (hg : g.okB = true) (n : Int) (hn : ok64 n) (d : List Int) (m : Nat) (hd : d.length = m) (hm : m ≤ 200) (A : Option Addr) (cap : Nat) (w : World) (hv : SlAt w (.slice A m cap) m (d.map u8)) (hn0 : 0 ≤ n) (hno : ¬ n < g.logical) :
    Calls Tryz.prog 10 #[.agg #[i64 g.B, i64 g.P, i64 g.Y, i64 g.S, i64 g.T], i64 n, .slice A m cap] w fun e w' => e = .returned (.bool true) ∧ Below w.heap.size w w' := by
  have hmi : ¬ (200 : Int) < (m : Int) := by omega
  have hgo := (Geo.ok_iff _).1 hg
  have y1 := hgo.y1
  have y2 := hgo.y2
  have hlb := logical_bounds hg
  have hfl : (FN g).logical = g.logical := rfl
  have hcg : (FN g).C.g = g := rfl
  have hcy : (FN g).C.g.Y = g.Y := rfl
  have hoff : (FN g).C.off = false := rfl
  have hdgr : (FN g).deg = false := rfl
  have hops := FN_ops hg
  have hop1 := hops.1
  have hop2 := hops.2
  have hget := FN_get g n
  have hfx := fun (E : Nat → Prop) (w : World) (X : FA) (h : FlashAt w X (FN g)) => FlashX.of_empty (E := E) h (FN_fd g) (FN_base g) (FN_pend g)
  have hpd : ∀ k, (FN g).pend k ≠ none → 0 ≤ k ∧ k < 1000 := fun k h => absurd (FN_pend g k) h
  have hcuts : (FN g).C.cuts = 0 := rfl
  have hturn : (FN g).C.turn = 0 := rfl
  have has : (FN g).asked n = if 0 ≤ n ∧ n < g.logical then 0 else 2 := by simp [Fl.asked, hoff, hfl]
  have hmn := fun (w : World) (A : CA) => mount_new (w := w) (A := A) hg
  generalize FN g = F at *
  have HV := Lib.hid hv
  have HFX := Lib.hid hfx
  have HMN := Lib.hid hmn
  have HPD := Lib.hid hpd
  have HOFF := Lib.hid hoff
  have HDG := Lib.hid hdgr
  have HGET := Lib.hid hget
  have HCUT := Lib.hid hcuts
  have HTU := Lib.hid hturn
  have HGO := Lib.hid hgo
  have hgl := hfl
  generalize g.logical = lg at *
  clear hv hfx hmn hpd hoff hdgr hget hcuts hturn hgo hops
  have has2 : F.asked n = 2 := by rw [has, if_neg (by omega)]
  clear has
  go_enter Tryz.func10, Tryz.ntmps10
  go_wp2_with fail
  have row0 : Row (w.alloc (.cells #[i64 g.B, i64 g.P, i64 g.Y, i64 g.S, i64 g.T] 23)) w.heap.size 0 [i64 g.B, i64 g.P, i64 g.Y, i64 g.S, i64 g.T] := Row.new _ _ _
  have bel0 : Below w.heap.size w (w.alloc (.cells #[i64 g.B, i64 g.P, i64 g.Y, i64 g.S, i64 g.T] 23)) := by (repeat (first | exact Below.refl _ _ | assumption | (with_reducible refine Below.drew ?_) | (with_reducible refine below_drewN' ?_ _) | (with_reducible refine ext_alloc ?_ ?_; · (first | omega | (simp only [World.size_alloc, World.size_setCell, World.size_drew, World.heap_drewN]; omega) | (simp; omega))) | (with_reducible refine ext_setCell ?_ ?_; · (first | omega | (simp only [World.size_alloc, World.size_setCell, World.size_drew, World.heap_drewN]; omega) | (simp; omega))) | (refine ext_call (by assumption) ?_ ?_; · (first | omega | (simp only [World.size_alloc, World.size_setCell, World.size_drew, World.heap_drewN]; omega) | (simp; omega)))))
  have s0 : (w.alloc (.cells #[i64 g.B, i64 g.P, i64 g.Y, i64 g.S, i64 g.T] 23)).heap.size = w.heap.size + 1 := by simp
  generalize w.alloc (.cells #[i64 g.B, i64 g.P, i64 g.Y, i64 g.S, i64 g.T] 23) = W0 at *
  have BEL0 := Lib.hid bel0
  have S0 := Lib.hid s0
  have lw0 : w.heap.size < W0.heap.size := by omega
  have hcy2 : ∀ W : World, Below W0.heap.size W0 W → W.cell? ⟨w.heap.size, 2, none⟩ = some (i64 g.Y) := fun W hb => (row0.below hb).cell0 2 rfl
  have HCY := Lib.hid hcy2
  clear bel0 s0 row0 hcy2
  refine (new14 g W0 hg).mono ?_
  rintro e w1 ⟨⟨A1, rfl, hC1, hA1, hfA⟩, hb1⟩
  have z1 := hb1.size
  go_wp2_with fail
  refine (HMN.out w1 A1 hC1 hfA).mono ?_
  rintro e w2 ⟨X, rfl, hXA, hXm, hF2, hT2⟩
  have z2 := hT2.size
  subst hXA
  have B2 := Lib.hid (ext_turns hb1 z1 hT2 hA1)
  have hxm : ∀ k, X.mut k → W0.heap.size ≤ k := fun k hk => (hXm k hk).elim (hA1 k) (fun h => by omega)
  have hB : ¬ X.mut w2.heap.size := fun hk => by have := hF2.mut_lt hk; omega
  have HF2 := Lib.hid hF2
  have HXM := Lib.hid hxm
  have HB := Lib.hid hB
  have HFA := Lib.hid hfA
  clear hC1 hA1 hXm hF2 hT2 hb1 hxm hB hfA
  have d2 := HCY.out w2 B2.out
  go_wp2_with fail
  refine ((logical23 HF2.out).mono fun e w' h => (by rw [hgl] at h; exact h : e = .returned (i64 lg) ∧ _)).mono ?_
  rintro e w3 ⟨rfl, hb3⟩
  have z3 := hb3.size
  have B3 := Lib.hid (ext_call hb3 (by have := B2.out.size; omega) B2.out)
  have HF3 := Lib.hid (HF2.out.below hb3)
  clear hb3
  have d3 := HCY.out w3 B3.out
  go_wp2_with fail
  refine (lend39 d m hd hm A cap w3 (HV.out.below (ext_call B3.out (by omega) BEL0.out))).mono ?_
  rintro e w4 ⟨rfl, hlt, hb4⟩
  have z4 := hb4.size
  have B4 := Lib.hid (ext_call hb4 (by have := B3.out.size; omega) B3.out)
  have hbx : ¬ X.mut w3.heap.size := fun hk => by have := HF3.out.mut_lt hk; omega
  have HBX := Lib.hid hbx
  have HF4 := Lib.hid (HF3.out.below hb4)
  have bx0 : W0.heap.size ≤ w3.heap.size := B3.out.size
  have bx1 : w3.heap.size < w4.heap.size := heap_lt hlt.1
  have LT4 := Lib.hid hlt
  clear hlt hb4 hbx
  generalize w3.heap.size = bx at *
  go_wp2_with fail
  refine ((read33_bad HF4.out n (by rw [has2]; decide)).mono fun e w' h => (by rw [has2] at h; exact h : e = .returned (.tuple #[.slice none 0 0, i64 2]) ∧ _)).mono ?_
  rintro e w5 ⟨rfl, hb5⟩
  have z5 := hb5.size
  have B5 := Lib.hid (ext_call hb5 (by have := B4.out.size; omega) B4.out)
  have HF5 := Lib.hid (HF4.out.below hb5)
  have LT5 := Lib.hid (lent_below LT4.out hb5)
  clear hb5
  go_wp2_with fail
  refine ((trim30_bad HF5.out n (by rw [has2]; decide)).mono fun e w' h => (by rw [has2] at h; exact h : e = .returned (i64 2) ∧ _)).mono ?_
  rintro e w6 ⟨rfl, hb6⟩
  have z6 := hb6.size
  have B6 := Lib.hid (ext_call hb6 (by have := B5.out.size; omega) B5.out)
  have HF6 := Lib.hid (HF5.out.below hb6)
  have LT6 := Lib.hid (lent_below LT5.out hb6)
  clear hb6
  go_wp2_with fail
  refine ((write18_bad HF6.out n (by rw [has2]; decide) _).mono fun e w' h => (by rw [has2] at h; exact h : e = .returned (i64 2) ∧ _)).mono ?_
  rintro e w7 ⟨rfl, hb7⟩
  have z7 := hb7.size
  have B7 := Lib.hid (ext_call hb7 (by have := B6.out.size; omega) B6.out)
  have HF7 := Lib.hid (HF6.out.below hb7)
  have LT7 := Lib.hid (lent_below LT6.out hb7)
  clear hb7
  go_wp2_with fail
  have hkp := kept40 d d m m hd hm bx A cap w7 LT7.out (HV.out.below (ext_call B7.out (by omega) BEL0.out))
  rw [decide_eq_true (rfl : d = d)] at hkp
  have HKP := Lib.hid hkp
  clear hkp
  refine HKP.out.mono ?_
  rintro e w8 ⟨rfl, hb8⟩
  have z8 := hb8.size
  have B8 := Lib.hid (ext_call hb8 (by have := B7.out.size; omega) B7.out)
  have HF8 := Lib.hid (HF7.out.below hb8)
  have LT8 := Lib.hid (lent_below LT7.out hb8)
  clear HKP hb8
  go_wp2_with fail
  have HX8 := Lib.hid (HFX.out (· = bx) w8 X HF8.out (fun j hj => by rw [hj]; exact ⟨HBX.out, heap_lt LT8.out.1⟩) HFA.out)
  refine (over41 bx m (m + 3) (by omega) w8 (lent_own LT8.out hm)).mono ?_
  rintro e w9 ⟨rfl, ht9⟩
  have z9 := ht9.size
  have B9 := Lib.hid (ext_turns B8.out (by have := B8.out.size; omega) ht9 (fun j hj => by rw [hj]; exact bx0))
  have HF9 := Lib.hid (HX8.out.turns ht9)
  clear ht9
  go_wp2_with fail
  refine ((read33_bad HF9.out n (by rw [has2]; decide)).mono fun e w' h => (by rw [has2] at h; exact h : e = .returned (.tuple #[.slice none 0 0, i64 2]) ∧ _)).mono ?_
  rintro e w10 ⟨rfl, hb10⟩
  have z10 := hb10.size
  have B10 := Lib.hid (ext_call hb10 (by have := B9.out.size; omega) B9.out)
  have HF10 := Lib.hid (HF9.out.below hb10)
  clear hb10
  go_wp2_with fail
  refine (over41_nil w10).mono ?_
  rintro e w11 ⟨rfl, hb11⟩
  have z11 := hb11.size
  have B11 := Lib.hid (ext_call hb11 (by have := B10.out.size; omega) B10.out)
  have HF11 := Lib.hid (HF10.out.below hb11)
  clear hb11
  go_wp2_with fail
  have har := arm42 HF11.out.chip HOFF.out (by omega)
  refine har.mono ?_
  rintro e w12 ⟨rfl, hch, ht12⟩
  clear har
  have z12 := ht12.size
  have hxf : ∀ j, X.A.foot j → W0.heap.size ≤ j := fun j hj => HXM.out j (.inl hj)
  have B12 := Lib.hid (ext_turns B11.out (by have := B11.out.size; omega) ht12 hxf)
  have HF12 := Lib.hid (HF11.out.chipped hch rfl ht12)
  clear ht12 hch
  go_wp2_with fail
  have hrc := read43_cut HF12.out.chip (by show Geo.isB F.C.g ⟨0, 0⟩ = true; rw [hcg]; exact isB_00 hg) HOFF.out rfl (by show F.C.ops < _; omega) (by show 0 ≤ F.C.cuts ∧ F.C.cuts < 1000; rw [HCUT.out]; omega)
  refine hrc.mono ?_
  rintro e w13 ⟨rfl, hch, ht13⟩
  clear hrc
  have z13 := ht13.size
  have B13 := Lib.hid (ext_turns B12.out (by have := B12.out.size; omega) ht13 hxf)
  have hFo := HF12.out.chipped hch rfl ht13
  have hoff2 : ({ ({ F with C := F.C.armed } : Fl) with C := F.C.armed.cut } : Fl).C.off = true := rfl
  generalize ({ ({ F with C := F.C.armed } : Fl) with C := F.C.armed.cut } : Fl) = G2 at *
  have has9 : ∀ j, G2.asked j = 9 := fun j => by simp [Fl.asked, hoff2]
  have hn9 : (9 : Int) ≠ 0 := by decide
  have HF13 := Lib.hid hFo
  have hco := HF13.out.chip
  clear ht13 hch hFo hco
  go_wp2_with fail
  refine ((read33_bad HF13.out 0 (by rw [has9]; decide)).mono fun e w' h => (by rw [has9] at h; exact h : e = .returned (.tuple #[.slice none 0 0, i64 9]) ∧ _)).mono ?_
  rintro e w14 ⟨rfl, hb14⟩
  have z14 := hb14.size
  have B14 := Lib.hid (ext_call hb14 (by have := B13.out.size; omega) B13.out)
  have HF14 := Lib.hid (HF13.out.below hb14)
  clear hb14
  go_wp2_with fail
  refine (mount15_off HF14.out.chip hoff2).mono ?_
  rintro e w15 ⟨rfl, hb15⟩
  have z15 := hb15.size
  have B15 := Lib.hid (ext_call hb15 (by have := B14.out.size; omega) B14.out)
  have HF15 := Lib.hid (HF14.out.below hb15)
  clear hb15
  have d15 := HCY.out w15 B15.out
  obtain ⟨Y, hY⟩ : ∃ Y : Nat, g.Y = Y := ⟨g.Y.toNat, by omega⟩
  rw [hY] at d15
  go_wp2_with fail
  refine (data19 1 (by omega) Y (by omega) w15).mono ?_
  rintro e w16 ⟨rfl, -, hb16⟩
  have z16 := hb16.size
  have B16 := Lib.hid (ext_call hb16 (by have := B15.out.size; omega) B15.out)
  have HF16 := Lib.hid (HF15.out.below hb16)
  clear hb16
  go_wp2_with fail
  refine ((write18_bad HF16.out 0 (by rw [has9]; decide) _).mono fun e w' h => (by rw [has9] at h; exact h : e = .returned (i64 9) ∧ _)).mono ?_
  rintro e w17 ⟨rfl, hb17⟩
  have z17 := hb17.size
  have B17 := Lib.hid (ext_call hb17 (by have := B16.out.size; omega) B16.out)
  have HF17 := Lib.hid (HF16.out.below hb17)
  clear hb17
  go_wp2_with fail
  refine ((trim30_bad HF17.out 0 (by rw [has9]; decide)).mono fun e w' h => (by rw [has9] at h; exact h : e = .returned (i64 9) ∧ _)).mono ?_
  rintro e w18 ⟨rfl, hb18⟩
  have z18 := hb18.size
  have B18 := Lib.hid (ext_call hb18 (by have := B17.out.size; omega) B17.out)
  have HF18 := Lib.hid (HF17.out.below hb18)
  clear hb18
  go_wp2_with fail
  refine (flush20_off HF18.out hoff2).mono ?_
  rintro e w19 ⟨rfl, hb19⟩
  have z19 := hb19.size
  have B19 := Lib.hid (ext_call hb19 (by have := B18.out.size; omega) B18.out)
  have HF19 := Lib.hid (HF18.out.below hb19)
  clear hb19
  go_wp2_with fail
  refine (awake13 w19).mono ?_
  rintro e w20 ⟨rfl, hb20⟩
  have B20 := ext_call hb20 (by have := B19.out.size; omega) B19.out
  go_wp2_with fail
  go_ret
  exact ⟨rfl, ext_call B20 (by omega) BEL0.out⟩

set_option maxHeartbeats 2000000 in
set_option maxRecDepth 100000 in
theorem asks10_len (g : Geo) (hg : g.okB = true) (n : Int) (hn : ok64 n) (d : List Int) (m : Nat) (hd : d.length = m) (hm : m ≤ 200) (A : Option Addr) (cap : Nat) (w : World) (hv : SlAt w (.slice A m cap) m (d.map u8)) (hn0 : 0 ≤ n) (hn1 : n < g.logical) (hlen : (m : Int) ≠ g.Y) :
    Calls Tryz.prog 10 #[.agg #[i64 g.B, i64 g.P, i64 g.Y, i64 g.S, i64 g.T], i64 n, .slice A m cap] w fun e w' => e = .returned (.bool true) ∧ Below w.heap.size w w' := by
  have hmi : ¬ (200 : Int) < (m : Int) := by omega
  have hgo := (Geo.ok_iff _).1 hg
  have y1 := hgo.y1
  have y2 := hgo.y2
  have hlb := logical_bounds hg
  have hfl : (FN g).logical = g.logical := rfl
  have hcg : (FN g).C.g = g := rfl
  have hcy : (FN g).C.g.Y = g.Y := rfl
  have hoff : (FN g).C.off = false := rfl
  have hdgr : (FN g).deg = false := rfl
  have hops := FN_ops hg
  have hop1 := hops.1
  have hop2 := hops.2
  have hget := FN_get g n
  have hfx := fun (E : Nat → Prop) (w : World) (X : FA) (h : FlashAt w X (FN g)) => FlashX.of_empty (E := E) h (FN_fd g) (FN_base g) (FN_pend g)
  have hpd : ∀ k, (FN g).pend k ≠ none → 0 ≤ k ∧ k < 1000 := fun k h => absurd (FN_pend g k) h
  have hcuts : (FN g).C.cuts = 0 := rfl
  have hturn : (FN g).C.turn = 0 := rfl
  have has : (FN g).asked n = if 0 ≤ n ∧ n < g.logical then 0 else 2 := by simp [Fl.asked, hoff, hfl]
  have hmn := fun (w : World) (A : CA) => mount_new (w := w) (A := A) hg
  generalize FN g = F at *
  have HV := Lib.hid hv
  have HFX := Lib.hid hfx
  have HMN := Lib.hid hmn
  have HPD := Lib.hid hpd
  have HOFF := Lib.hid hoff
  have HDG := Lib.hid hdgr
  have HGET := Lib.hid hget
  have HCUT := Lib.hid hcuts
  have HTU := Lib.hid hturn
  have HGO := Lib.hid hgo
  have hgl := hfl
  generalize g.logical = lg at *
  clear hv hfx hmn hpd hoff hdgr hget hcuts hturn hgo hops
  have has2 : F.asked n = 0 := by rw [has, if_pos (by omega)]
  have hlb2 : ((m : Int) != g.Y) = true := by simpa using hlen
  have HLEN := Lib.hid hlen
  clear hlen
  clear has
  go_enter Tryz.func10, Tryz.ntmps10
  go_wp2_with fail
  have row0 : Row (w.alloc (.cells #[i64 g.B, i64 g.P, i64 g.Y, i64 g.S, i64 g.T] 23)) w.heap.size 0 [i64 g.B, i64 g.P, i64 g.Y, i64 g.S, i64 g.T] := Row.new _ _ _
  have bel0 : Below w.heap.size w (w.alloc (.cells #[i64 g.B, i64 g.P, i64 g.Y, i64 g.S, i64 g.T] 23)) := by (repeat (first | exact Below.refl _ _ | assumption | (with_reducible refine Below.drew ?_) | (with_reducible refine below_drewN' ?_ _) | (with_reducible refine ext_alloc ?_ ?_; · (first | omega | (simp only [World.size_alloc, World.size_setCell, World.size_drew, World.heap_drewN]; omega) | (simp; omega))) | (with_reducible refine ext_setCell ?_ ?_; · (first | omega | (simp only [World.size_alloc, World.size_setCell, World.size_drew, World.heap_drewN]; omega) | (simp; omega))) | (refine ext_call (by assumption) ?_ ?_; · (first | omega | (simp only [World.size_alloc, World.size_setCell, World.size_drew, World.heap_drewN]; omega) | (simp; omega)))))
  have s0 : (w.alloc (.cells #[i64 g.B, i64 g.P, i64 g.Y, i64 g.S, i64 g.T] 23)).heap.size = w.heap.size + 1 := by simp
  generalize w.alloc (.cells #[i64 g.B, i64 g.P, i64 g.Y, i64 g.S, i64 g.T] 23) = W0 at *
  have BEL0 := Lib.hid bel0
  have S0 := Lib.hid s0
  have lw0 : w.heap.size < W0.heap.size := by omega
  have hcy2 : ∀ W : World, Below W0.heap.size W0 W → W.cell? ⟨w.heap.size, 2, none⟩ = some (i64 g.Y) := fun W hb => (row0.below hb).cell0 2 rfl
  have HCY := Lib.hid hcy2
  clear bel0 s0 row0 hcy2
  refine (new14 g W0 hg).mono ?_
  rintro e w1 ⟨⟨A1, rfl, hC1, hA1, hfA⟩, hb1⟩
  have z1 := hb1.size
  go_wp2_with fail
  refine (HMN.out w1 A1 hC1 hfA).mono ?_
  rintro e w2 ⟨X, rfl, hXA, hXm, hF2, hT2⟩
  have z2 := hT2.size
  subst hXA
  have B2 := Lib.hid (ext_turns hb1 z1 hT2 hA1)
  have hxm : ∀ k, X.mut k → W0.heap.size ≤ k := fun k hk => (hXm k hk).elim (hA1 k) (fun h => by omega)
  have hB : ¬ X.mut w2.heap.size := fun hk => by have := hF2.mut_lt hk; omega
  have HF2 := Lib.hid hF2
  have HXM := Lib.hid hxm
  have HB := Lib.hid hB
  have HFA := Lib.hid hfA
  clear hC1 hA1 hXm hF2 hT2 hb1 hxm hB hfA
  have d2 := HCY.out w2 B2.out
  go_wp2_with fail
  refine ((logical23 HF2.out).mono fun e w' h => (by rw [hgl] at h; exact h : e = .returned (i64 lg) ∧ _)).mono ?_
  rintro e w3 ⟨rfl, hb3⟩
  have z3 := hb3.size
  have B3 := Lib.hid (ext_call hb3 (by have := B2.out.size; omega) B2.out)
  have HF3 := Lib.hid (HF2.out.below hb3)
  clear hb3
  have d3 := HCY.out w3 B3.out
  go_wp2_with fail
  refine (lend39 d m hd hm A cap w3 (HV.out.below (ext_call B3.out (by omega) BEL0.out))).mono ?_
  rintro e w4 ⟨rfl, hlt, hb4⟩
  have z4 := hb4.size
  have B4 := Lib.hid (ext_call hb4 (by have := B3.out.size; omega) B3.out)
  have hbx : ¬ X.mut w3.heap.size := fun hk => by have := HF3.out.mut_lt hk; omega
  have HBX := Lib.hid hbx
  have HF4 := Lib.hid (HF3.out.below hb4)
  have bx0 : W0.heap.size ≤ w3.heap.size := B3.out.size
  have bx1 : w3.heap.size < w4.heap.size := heap_lt hlt.1
  have LT4 := Lib.hid hlt
  clear hlt hb4 hbx
  generalize w3.heap.size = bx at *
  go_wp2_with fail
  refine (read33_none HF4.out n has2 hn HGET.out).mono ?_
  rintro e w5 ⟨rfl, hb5⟩
  have z5 := hb5.size
  have B5 := Lib.hid (ext_call hb5 (by have := B4.out.size; omega) B4.out)
  have HF5 := Lib.hid (HF4.out.below hb5)
  have LT5 := Lib.hid (lent_below LT4.out hb5)
  clear hb5
  go_wp2_with fail
  refine (trim30_none HF5.out n has2 hn HDG.out HGET.out).mono ?_
  rintro e w6 ⟨rfl, hb6⟩
  have z6 := hb6.size
  have B6 := Lib.hid (ext_call hb6 (by have := B5.out.size; omega) B5.out)
  have HF6 := Lib.hid (HF5.out.below hb6)
  have LT6 := Lib.hid (lent_below LT5.out hb6)
  clear hb6
  go_wp2_with fail
  refine (write18_len HF6.out n has2 (some ⟨bx, 0, none⟩) m (m + 3) (by rw [hcy]; exact HLEN.out)).mono ?_
  rintro e w7 ⟨rfl, hb7⟩
  have z7 := hb7.size
  have B7 := Lib.hid (ext_call hb7 (by have := B6.out.size; omega) B6.out)
  have HF7 := Lib.hid (HF6.out.below hb7)
  have LT7 := Lib.hid (lent_below LT6.out hb7)
  clear hb7
  go_wp2_with fail
  have hkp := kept40 d d m m hd hm bx A cap w7 LT7.out (HV.out.below (ext_call B7.out (by omega) BEL0.out))
  rw [decide_eq_true (rfl : d = d)] at hkp
  have HKP := Lib.hid hkp
  clear hkp
  refine HKP.out.mono ?_
  rintro e w8 ⟨rfl, hb8⟩
  have z8 := hb8.size
  have B8 := Lib.hid (ext_call hb8 (by have := B7.out.size; omega) B7.out)
  have HF8 := Lib.hid (HF7.out.below hb8)
  have LT8 := Lib.hid (lent_below LT7.out hb8)
  clear HKP hb8
  go_wp2_with fail
  have HX8 := Lib.hid (HFX.out (· = bx) w8 X HF8.out (fun j hj => by rw [hj]; exact ⟨HBX.out, heap_lt LT8.out.1⟩) HFA.out)
  refine (over41 bx m (m + 3) (by omega) w8 (lent_own LT8.out hm)).mono ?_
  rintro e w9 ⟨rfl, ht9⟩
  have z9 := ht9.size
  have B9 := Lib.hid (ext_turns B8.out (by have := B8.out.size; omega) ht9 (fun j hj => by rw [hj]; exact bx0))
  have HF9 := Lib.hid (HX8.out.turns ht9)
  clear ht9
  go_wp2_with fail
  refine (read33_none HF9.out n has2 hn HGET.out).mono ?_
  rintro e w10 ⟨rfl, hb10⟩
  have z10 := hb10.size
  have B10 := Lib.hid (ext_call hb10 (by have := B9.out.size; omega) B9.out)
  have HF10 := Lib.hid (HF9.out.below hb10)
  clear hb10
  go_wp2_with fail
  refine (over41_nil w10).mono ?_
  rintro e w11 ⟨rfl, hb11⟩
  have z11 := hb11.size
  have B11 := Lib.hid (ext_call hb11 (by have := B10.out.size; omega) B10.out)
  have HF11 := Lib.hid (HF10.out.below hb11)
  clear hb11
  go_wp2_with fail
  have har := arm42 HF11.out.chip HOFF.out (by omega)
  refine har.mono ?_
  rintro e w12 ⟨rfl, hch, ht12⟩
  clear har
  have z12 := ht12.size
  have hxf : ∀ j, X.A.foot j → W0.heap.size ≤ j := fun j hj => HXM.out j (.inl hj)
  have B12 := Lib.hid (ext_turns B11.out (by have := B11.out.size; omega) ht12 hxf)
  have HF12 := Lib.hid (HF11.out.chipped hch rfl ht12)
  clear ht12 hch
  go_wp2_with fail
  have hrc := read43_cut HF12.out.chip (by show Geo.isB F.C.g ⟨0, 0⟩ = true; rw [hcg]; exact isB_00 hg) HOFF.out rfl (by show F.C.ops < _; omega) (by show 0 ≤ F.C.cuts ∧ F.C.cuts < 1000; rw [HCUT.out]; omega)
  refine hrc.mono ?_
  rintro e w13 ⟨rfl, hch, ht13⟩
  clear hrc
  have z13 := ht13.size
  have B13 := Lib.hid (ext_turns B12.out (by have := B12.out.size; omega) ht13 hxf)
  have hFo := HF12.out.chipped hch rfl ht13
  have hoff2 : ({ ({ F with C := F.C.armed } : Fl) with C := F.C.armed.cut } : Fl).C.off = true := rfl
  generalize ({ ({ F with C := F.C.armed } : Fl) with C := F.C.armed.cut } : Fl) = G2 at *
  have has9 : ∀ j, G2.asked j = 9 := fun j => by simp [Fl.asked, hoff2]
  have hn9 : (9 : Int) ≠ 0 := by decide
  have HF13 := Lib.hid hFo
  have hco := HF13.out.chip
  clear ht13 hch hFo hco
  go_wp2_with fail
  refine ((read33_bad HF13.out 0 (by rw [has9]; decide)).mono fun e w' h => (by rw [has9] at h; exact h : e = .returned (.tuple #[.slice none 0 0, i64 9]) ∧ _)).mono ?_
  rintro e w14 ⟨rfl, hb14⟩
  have z14 := hb14.size
  have B14 := Lib.hid (ext_call hb14 (by have := B13.out.size; omega) B13.out)
  have HF14 := Lib.hid (HF13.out.below hb14)
  clear hb14
  go_wp2_with fail
  refine (mount15_off HF14.out.chip hoff2).mono ?_
  rintro e w15 ⟨rfl, hb15⟩
  have z15 := hb15.size
  have B15 := Lib.hid (ext_call hb15 (by have := B14.out.size; omega) B14.out)
  have HF15 := Lib.hid (HF14.out.below hb15)
  clear hb15
  have d15 := HCY.out w15 B15.out
  obtain ⟨Y, hY⟩ : ∃ Y : Nat, g.Y = Y := ⟨g.Y.toNat, by omega⟩
  rw [hY] at d15
  go_wp2_with fail
  refine (data19 1 (by omega) Y (by omega) w15).mono ?_
  rintro e w16 ⟨rfl, -, hb16⟩
  have z16 := hb16.size
  have B16 := Lib.hid (ext_call hb16 (by have := B15.out.size; omega) B15.out)
  have HF16 := Lib.hid (HF15.out.below hb16)
  clear hb16
  go_wp2_with fail
  refine ((write18_bad HF16.out 0 (by rw [has9]; decide) _).mono fun e w' h => (by rw [has9] at h; exact h : e = .returned (i64 9) ∧ _)).mono ?_
  rintro e w17 ⟨rfl, hb17⟩
  have z17 := hb17.size
  have B17 := Lib.hid (ext_call hb17 (by have := B16.out.size; omega) B16.out)
  have HF17 := Lib.hid (HF16.out.below hb17)
  clear hb17
  go_wp2_with fail
  refine ((trim30_bad HF17.out 0 (by rw [has9]; decide)).mono fun e w' h => (by rw [has9] at h; exact h : e = .returned (i64 9) ∧ _)).mono ?_
  rintro e w18 ⟨rfl, hb18⟩
  have z18 := hb18.size
  have B18 := Lib.hid (ext_call hb18 (by have := B17.out.size; omega) B17.out)
  have HF18 := Lib.hid (HF17.out.below hb18)
  clear hb18
  go_wp2_with fail
  refine (flush20_off HF18.out hoff2).mono ?_
  rintro e w19 ⟨rfl, hb19⟩
  have z19 := hb19.size
  have B19 := Lib.hid (ext_call hb19 (by have := B18.out.size; omega) B18.out)
  have HF19 := Lib.hid (HF18.out.below hb19)
  clear hb19
  go_wp2_with fail
  refine (awake13 w19).mono ?_
  rintro e w20 ⟨rfl, hb20⟩
  have B20 := ext_call hb20 (by have := B19.out.size; omega) B19.out
  go_wp2_with fail
  go_ret
  exact ⟨rfl, ext_call B20 (by omega) BEL0.out⟩

set_option maxHeartbeats 2000000 in
set_option maxRecDepth 100000 in
theorem asks10_in (g : Geo) (hg : g.okB = true) (n : Int) (hn : ok64 n) (d : List Int) (m : Nat) (hd : d.length = m) (hm : m ≤ 200) (A : Option Addr) (cap : Nat) (w : World) (hv : SlAt w (.slice A m cap) m (d.map u8)) (hn0 : 0 ≤ n) (hn1 : n < g.logical) (hlen : (m : Int) = g.Y) :
    Calls Tryz.prog 10 #[.agg #[i64 g.B, i64 g.P, i64 g.Y, i64 g.S, i64 g.T], i64 n, .slice A m cap] w fun e w' => e = .returned (.bool true) ∧ Below w.heap.size w w' := by
  have hmi : ¬ (200 : Int) < (m : Int) := by omega
  have hgo := (Geo.ok_iff _).1 hg
  have y1 := hgo.y1
  have y2 := hgo.y2
  have hlb := logical_bounds hg
  have hfl : (FN g).logical = g.logical := rfl
  have hcg : (FN g).C.g = g := rfl
  have hcy : (FN g).C.g.Y = g.Y := rfl
  have hoff : (FN g).C.off = false := rfl
  have hdgr : (FN g).deg = false := rfl
  have hops := FN_ops hg
  have hop1 := hops.1
  have hop2 := hops.2
  have hget := FN_get g n
  have hfx := fun (E : Nat → Prop) (w : World) (X : FA) (h : FlashAt w X (FN g)) => FlashX.of_empty (E := E) h (FN_fd g) (FN_base g) (FN_pend g)
  have hpd : ∀ k, (FN g).pend k ≠ none → 0 ≤ k ∧ k < 1000 := fun k h => absurd (FN_pend g k) h
  have hcuts : (FN g).C.cuts = 0 := rfl
  have hturn : (FN g).C.turn = 0 := rfl
  have has : (FN g).asked n = if 0 ≤ n ∧ n < g.logical then 0 else 2 := by simp [Fl.asked, hoff, hfl]
  have hmn := fun (w : World) (A : CA) => mount_new (w := w) (A := A) hg
  generalize FN g = F at *
  have HV := Lib.hid hv
  have HFX := Lib.hid hfx
  have HMN := Lib.hid hmn
  have HPD := Lib.hid hpd
  have HOFF := Lib.hid hoff
  have HDG := Lib.hid hdgr
  have HGET := Lib.hid hget
  have HCUT := Lib.hid hcuts
  have HTU := Lib.hid hturn
  have HGO := Lib.hid hgo
  have hgl := hfl
  generalize g.logical = lg at *
  clear hv hfx hmn hpd hoff hdgr hget hcuts hturn hgo hops
  have has2 : F.asked n = 0 := by rw [has, if_pos (by omega)]
  have hlb2 : ((m : Int) != g.Y) = false := by simpa using hlen
  have HLEN := Lib.hid hlen
  clear hlen
  have m1 : 0 < m := by have := HLEN.out; omega
  clear has
  go_enter Tryz.func10, Tryz.ntmps10
  go_wp2_with fail
  have row0 : Row (w.alloc (.cells #[i64 g.B, i64 g.P, i64 g.Y, i64 g.S, i64 g.T] 23)) w.heap.size 0 [i64 g.B, i64 g.P, i64 g.Y, i64 g.S, i64 g.T] := Row.new _ _ _
  have bel0 : Below w.heap.size w (w.alloc (.cells #[i64 g.B, i64 g.P, i64 g.Y, i64 g.S, i64 g.T] 23)) := by (repeat (first | exact Below.refl _ _ | assumption | (with_reducible refine Below.drew ?_) | (with_reducible refine below_drewN' ?_ _) | (with_reducible refine ext_alloc ?_ ?_; · (first | omega | (simp only [World.size_alloc, World.size_setCell, World.size_drew, World.heap_drewN]; omega) | (simp; omega))) | (with_reducible refine ext_setCell ?_ ?_; · (first | omega | (simp only [World.size_alloc, World.size_setCell, World.size_drew, World.heap_drewN]; omega) | (simp; omega))) | (refine ext_call (by assumption) ?_ ?_; · (first | omega | (simp only [World.size_alloc, World.size_setCell, World.size_drew, World.heap_drewN]; omega) | (simp; omega)))))
  have s0 : (w.alloc (.cells #[i64 g.B, i64 g.P, i64 g.Y, i64 g.S, i64 g.T] 23)).heap.size = w.heap.size + 1 := by simp
  generalize w.alloc (.cells #[i64 g.B, i64 g.P, i64 g.Y, i64 g.S, i64 g.T] 23) = W0 at *
  have BEL0 := Lib.hid bel0
  have S0 := Lib.hid s0
  have lw0 : w.heap.size < W0.heap.size := by omega
  have hcy2 : ∀ W : World, Below W0.heap.size W0 W → W.cell? ⟨w.heap.size, 2, none⟩ = some (i64 g.Y) := fun W hb => (row0.below hb).cell0 2 rfl
  have HCY := Lib.hid hcy2
  clear bel0 s0 row0 hcy2
  refine (new14 g W0 hg).mono ?_
  rintro e w1 ⟨⟨A1, rfl, hC1, hA1, hfA⟩, hb1⟩
  have z1 := hb1.size
  go_wp2_with fail
  refine (HMN.out w1 A1 hC1 hfA).mono ?_
  rintro e w2 ⟨X, rfl, hXA, hXm, hF2, hT2⟩
  have z2 := hT2.size
  subst hXA
  have B2 := Lib.hid (ext_turns hb1 z1 hT2 hA1)
  have hxm : ∀ k, X.mut k → W0.heap.size ≤ k := fun k hk => (hXm k hk).elim (hA1 k) (fun h => by omega)
  have hB : ¬ X.mut w2.heap.size := fun hk => by have := hF2.mut_lt hk; omega
  have HF2 := Lib.hid hF2
  have HXM := Lib.hid hxm
  have HB := Lib.hid hB
  have HFA := Lib.hid hfA
  clear hC1 hA1 hXm hF2 hT2 hb1 hxm hB hfA
  have d2 := HCY.out w2 B2.out
  go_wp2_with fail
  refine ((logical23 HF2.out).mono fun e w' h => (by rw [hgl] at h; exact h : e = .returned (i64 lg) ∧ _)).mono ?_
  rintro e w3 ⟨rfl, hb3⟩
  have z3 := hb3.size
  have B3 := Lib.hid (ext_call hb3 (by have := B2.out.size; omega) B2.out)
  have HF3 := Lib.hid (HF2.out.below hb3)
  clear hb3
  have d3 := HCY.out w3 B3.out
  go_wp2_with fail
  refine (lend39 d m hd hm A cap w3 (HV.out.below (ext_call B3.out (by omega) BEL0.out))).mono ?_
  rintro e w4 ⟨rfl, hlt, hb4⟩
  have z4 := hb4.size
  have B4 := Lib.hid (ext_call hb4 (by have := B3.out.size; omega) B3.out)
  have hbx : ¬ X.mut w3.heap.size := fun hk => by have := HF3.out.mut_lt hk; omega
  have HBX := Lib.hid hbx
  have HF4 := Lib.hid (HF3.out.below hb4)
  have bx0 : W0.heap.size ≤ w3.heap.size := B3.out.size
  have bx1 : w3.heap.size < w4.heap.size := heap_lt hlt.1
  have LT4 := Lib.hid hlt
  clear hlt hb4 hbx
  generalize w3.heap.size = bx at *
  go_wp2_with fail
  refine (read33_none HF4.out n has2 hn HGET.out).mono ?_
  rintro e w5 ⟨rfl, hb5⟩
  have z5 := hb5.size
  have B5 := Lib.hid (ext_call hb5 (by have := B4.out.size; omega) B4.out)
  have HF5 := Lib.hid (HF4.out.below hb5)
  have LT5 := Lib.hid (lent_below LT4.out hb5)
  clear hb5
  go_wp2_with fail
  refine (trim30_none HF5.out n has2 hn HDG.out HGET.out).mono ?_
  rintro e w6 ⟨rfl, hb6⟩
  have z6 := hb6.size
  have B6 := Lib.hid (ext_call hb6 (by have := B5.out.size; omega) B5.out)
  have HF6 := Lib.hid (HF5.out.below hb6)
  have LT6 := Lib.hid (lent_below LT5.out hb6)
  clear hb6
  go_wp2_with fail
  have hx6 : FlashX (· = bx) w6 X F := HFX.out (· = bx) w6 X HF6.out (fun j hj => by rw [hj]; exact ⟨HBX.out, heap_lt LT6.out.1⟩) HFA.out
  have hrw : Row w6 bx 0 (d.map u8) := (row_of_heap LT6.out.1).pre fun i v hi => by rw [List.getElem?_append_left (List.getElem?_eq_some_iff.1 hi).1]; exact hi
  have hwr := write18x hx6 n has2 ⟨by omega, by omega⟩ HDG.out HPD.out d bx 0 (m + 3) hrw (by rw [hd, hcy]; exact HLEN.out)
  rw [hd] at hwr
  have HWR := Lib.hid hwr
  clear hx6 hrw hwr
  refine HWR.out.mono ?_
  rintro e w7 ⟨rfl, hx7, ht7⟩
  have z7 := ht7.size
  have B7 := Lib.hid (ext_turns B6.out (by have := B6.out.size; omega) ht7 HXM.out)
  have LT7 := Lib.hid (lent_turns LT6.out ht7 HBX.out)
  have HX7 := Lib.hid hx7
  clear ht7 hx7 HWR
  go_wp2_with fail
  have hkp := kept40 d d m m hd hm bx A cap w7 LT7.out (HV.out.below (ext_call B7.out (by omega) BEL0.out))
  rw [decide_eq_true (rfl : d = d)] at hkp
  have HKP := Lib.hid hkp
  clear hkp
  refine HKP.out.mono ?_
  rintro e w8 ⟨rfl, hb8⟩
  have z8 := hb8.size
  have B8 := Lib.hid (ext_call hb8 (by have := B7.out.size; omega) B7.out)
  have HX8 := Lib.hid (HX7.out.below hb8)
  have LT8 := Lib.hid (lent_below LT7.out hb8)
  clear HKP hb8
  go_wp2_with fail
  refine (over41 bx m (m + 3) (by omega) w8 (lent_own LT8.out hm)).mono ?_
  rintro e w9 ⟨rfl, ht9⟩
  have z9 := ht9.size
  have B9 := Lib.hid (ext_turns B8.out (by have := B8.out.size; omega) ht9 (fun j hj => by rw [hj]; exact bx0))
  have HF9 := Lib.hid (HX8.out.turns ht9)
  clear ht9
  have hgk : { F with pend := fput F.pend n (some (some d)), np := true }.get n = some d := by simp [Fl.get, fput_self]
  have has3 : { F with pend := fput F.pend n (some (some d)), np := true }.asked n = 0 := has2
  have hop3 : { F with pend := fput F.pend n (some (some d)), np := true }.C = F.C := rfl
  rw [← hop3] at HOFF HCUT HTU hop1 hop2 hcg
  generalize { F with pend := fput F.pend n (some (some d)), np := true } = G at *
  go_wp2_with fail
  have hrd := read33_own HF9.out n has3 hn d hgk (by omega)
  rw [hd] at hrd
  refine hrd.mono ?_
  rintro e w10 ⟨⟨v10, rfl, hown10⟩, hb10⟩
  clear hrd
  have z10 := hb10.size
  have B10 := Lib.hid (ext_call hb10 (by have := B9.out.size; omega) B9.out)
  have HF10 := Lib.hid (HF9.out.below hb10)
  obtain ⟨g10, c10, rfl, hg10, ho10⟩ := own_bytes hown10 (by omega)
  have SL10 := Lib.hid (own_slat hown10 (by decide)).1
  have OW10 := Lib.hid ho10
  have BR10 := Lib.hid hb10
  clear hown10 ho10 hb10
  go_wp2_with fail
  have hsb := sameBytes34 d d m m hd hd (by omega) (some ⟨g10, 0, none⟩) A c10 cap w10 SL10.out (HV.out.below (ext_call B10.out (by omega) BEL0.out))
  rw [decide_eq_true (rfl : d = d)] at hsb
  refine hsb.mono ?_
  rintro e w11 ⟨rfl, hb11⟩
  clear hsb
  have z11 := hb11.size
  have B11 := Lib.hid (ext_call hb11 (by have := B10.out.size; omega) B10.out)
  have HF11 := Lib.hid (HF10.out.below hb11)
  have OW11 := Lib.hid (ob_below OW10.out hb11)
  have BR11 := Lib.hid (ext_call hb11 (by omega) BR10.out)
  clear hb11
  go_wp2_with fail
  refine (over41 g10 m c10 (by omega) w11 OW11.out).mono ?_
  rintro e w12 ⟨rfl, ht12⟩
  have z12 := ht12.size
  have hb12 : Below w9.heap.size w9 w12 := ext_turns BR11.out (by omega) ht12 (fun j hj => by rw [hj]; exact hg10)
  have B12 := Lib.hid (ext_call hb12 (by have := B9.out.size; omega) B9.out)
  have HF12 := Lib.hid (HF9.out.below hb12)
  clear ht12 hb12
  go_wp2_with fail
  have hrd := read33_own HF12.out n has3 hn d hgk (by omega)
  rw [hd] at hrd
  refine hrd.mono ?_
  rintro e w13 ⟨⟨v13, rfl, hown13⟩, hb13⟩
  clear hrd
  have z13 := hb13.size
  have B13 := Lib.hid (ext_call hb13 (by have := B12.out.size; omega) B12.out)
  have HF13 := Lib.hid (HF12.out.below hb13)
  obtain ⟨g13, c13, rfl, hg13, ho13⟩ := own_bytes hown13 (by omega)
  have SL13 := Lib.hid (own_slat hown13 (by decide)).1
  have OW13 := Lib.hid ho13
  have BR13 := Lib.hid hb13
  clear hown13 ho13 hb13
  go_wp2_with fail
  have hsb := sameBytes34 d d m m hd hd (by omega) (some ⟨g13, 0, none⟩) A c13 cap w13 SL13.out (HV.out.below (ext_call B13.out (by omega) BEL0.out))
  rw [decide_eq_true (rfl : d = d)] at hsb
  refine hsb.mono ?_
  rintro e w14 ⟨rfl, hb14⟩
  clear hsb
  have z14 := hb14.size
  have B14 := Lib.hid (ext_call hb14 (by have := B13.out.size; omega) B13.out)
  have HF14 := Lib.hid (HF13.out.below hb14)
  have OW14 := Lib.hid (ob_below OW13.out hb14)
  have BR14 := Lib.hid (ext_call hb14 (by omega) BR13.out)
  clear hb14
  go_wp2_with fail
  have har := arm42 HF14.out.chip HOFF.out (by omega)
  refine har.mono ?_
  rintro e w15 ⟨rfl, hch, ht15⟩
  clear har
  have z15 := ht15.size
  have hxf : ∀ j, X.A.foot j → W0.heap.size ≤ j := fun j hj => HXM.out j (.inl hj)
  have B15 := Lib.hid (ext_turns B14.out (by have := B14.out.size; omega) ht15 hxf)
  have HF15 := Lib.hid (HF14.out.chipped hch rfl ht15)
  clear ht15 hch
  go_wp2_with fail
  have hrc := read43_cut HF15.out.chip (by show Geo.isB G.C.g ⟨0, 0⟩ = true; rw [hcg]; exact isB_00 hg) HOFF.out rfl (by show G.C.ops < _; omega) (by show 0 ≤ G.C.cuts ∧ G.C.cuts < 1000; rw [HCUT.out]; omega)
  refine hrc.mono ?_
  rintro e w16 ⟨rfl, hch, ht16⟩
  clear hrc
  have z16 := ht16.size
  have B16 := Lib.hid (ext_turns B15.out (by have := B15.out.size; omega) ht16 hxf)
  have hFo := HF15.out.chipped hch rfl ht16
  have hoff2 : ({ ({ G with C := G.C.armed } : Fl) with C := G.C.armed.cut } : Fl).C.off = true := rfl
  generalize ({ ({ G with C := G.C.armed } : Fl) with C := G.C.armed.cut } : Fl) = G2 at *
  have has9 : ∀ j, G2.asked j = 9 := fun j => by simp [Fl.asked, hoff2]
  have hn9 : (9 : Int) ≠ 0 := by decide
  have HF16 := Lib.hid hFo
  have hco := HF16.out.chip
  clear ht16 hch hFo hco
  go_wp2_with fail
  refine ((read33_bad HF16.out 0 (by rw [has9]; decide)).mono fun e w' h => (by rw [has9] at h; exact h : e = .returned (.tuple #[.slice none 0 0, i64 9]) ∧ _)).mono ?_
  rintro e w17 ⟨rfl, hb17⟩
  have z17 := hb17.size
  have B17 := Lib.hid (ext_call hb17 (by have := B16.out.size; omega) B16.out)
  have HF17 := Lib.hid (HF16.out.below hb17)
  clear hb17
  go_wp2_with fail
  refine (mount15_off HF17.out.chip hoff2).mono ?_
  rintro e w18 ⟨rfl, hb18⟩
  have z18 := hb18.size
  have B18 := Lib.hid (ext_call hb18 (by have := B17.out.size; omega) B17.out)
  have HF18 := Lib.hid (HF17.out.below hb18)
  clear hb18
  have d18 := HCY.out w18 B18.out
  obtain ⟨Y, hY⟩ : ∃ Y : Nat, g.Y = Y := ⟨g.Y.toNat, by omega⟩
  rw [hY] at d18
  go_wp2_with fail
  refine (data19 1 (by omega) Y (by omega) w18).mono ?_
  rintro e w19 ⟨rfl, -, hb19⟩
  have z19 := hb19.size
  have B19 := Lib.hid (ext_call hb19 (by have := B18.out.size; omega) B18.out)
  have HF19 := Lib.hid (HF18.out.below hb19)
  clear hb19
  go_wp2_with fail
  refine ((write18_bad HF19.out 0 (by rw [has9]; decide) _).mono fun e w' h => (by rw [has9] at h; exact h : e = .returned (i64 9) ∧ _)).mono ?_
  rintro e w20 ⟨rfl, hb20⟩
  have z20 := hb20.size
  have B20 := Lib.hid (ext_call hb20 (by have := B19.out.size; omega) B19.out)
  have HF20 := Lib.hid (HF19.out.below hb20)
  clear hb20
  go_wp2_with fail
  refine ((trim30_bad HF20.out 0 (by rw [has9]; decide)).mono fun e w' h => (by rw [has9] at h; exact h : e = .returned (i64 9) ∧ _)).mono ?_
  rintro e w21 ⟨rfl, hb21⟩
  have z21 := hb21.size
  have B21 := Lib.hid (ext_call hb21 (by have := B20.out.size; omega) B20.out)
  have HF21 := Lib.hid (HF20.out.below hb21)
  clear hb21
  go_wp2_with fail
  refine (flush20_off HF21.out hoff2).mono ?_
  rintro e w22 ⟨rfl, hb22⟩
  have z22 := hb22.size
  have B22 := Lib.hid (ext_call hb22 (by have := B21.out.size; omega) B21.out)
  have HF22 := Lib.hid (HF21.out.below hb22)
  clear hb22
  go_wp2_with fail
  refine (awake13 w22).mono ?_
  rintro e w23 ⟨rfl, hb23⟩
  have B23 := ext_call hb23 (by have := B22.out.size; omega) B22.out
  go_wp2_with fail
  go_ret
  exact ⟨rfl, ext_call B23 (by omega) BEL0.out⟩
end Go.Proofs.YthghhcnpbehaiaaGreat
