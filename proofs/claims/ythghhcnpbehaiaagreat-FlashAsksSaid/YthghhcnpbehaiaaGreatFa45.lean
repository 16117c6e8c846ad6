/- The flash: what is refused; power that is off. -/
import Derived.Test.YthghhcnpbehaiaaGreatFa43

namespace Go.Proofs.YthghhcnpbehaiaaGreat
open Go.RowKit

set_option maxHeartbeats 2000000 in
set_option maxRecDepth 100000 in
theorem trim30_bad {w : World} {X : FA} {F : Fl} (h : FlashAt w X F) (n : Int) (he : F.asked n ≠ 0) : Calls Tryz.prog 30 #[ptr X.f, i64 n] w fun e w' => e = .returned (i64 (F.asked n)) ∧ Below w.heap.size w w' := by
  have ha := asked69 h n
  obtain ⟨h1, h2⟩ := i64_ne he
  generalize F.asked n = a at *
  have HA := Lib.hid ha
  clear ha
  go_enter Tryz.func30, Tryz.ntmps30
  go_wp2_with fail
  refine HA.out.mono ?_
  rintro e w1 ⟨rfl, hb⟩
  go_wp2_with fail
  go_ret
  exact ⟨rfl, by (repeat (first | exact Below.refl _ _ | assumption | (with_reducible refine Below.drew ?_) | (with_reducible refine below_drewN' ?_ _) | (with_reducible refine ext_alloc ?_ ?_; · (first | omega | (simp only [World.size_alloc, World.size_setCell, World.size_drew, World.heap_drewN]; omega) | (simp; omega))) | (with_reducible refine ext_setCell ?_ ?_; · (first | omega | (simp only [World.size_alloc, World.size_setCell, World.size_drew, World.heap_drewN]; omega) | (simp; omega))) | (refine ext_call (by assumption) ?_ ?_; · (first | omega | (simp only [World.size_alloc, World.size_setCell, World.size_drew, World.heap_drewN]; omega) | (simp; omega)))))⟩

set_option maxHeartbeats 2000000 in
set_option maxRecDepth 100000 in
theorem trim30_none {w : World} {X : FA} {F : Fl} (h : FlashAt w X F) (n : Int) (he : F.asked n = 0) (hn : ok64 n) (hdg : F.deg = false) (hg : F.get n = none) : Calls Tryz.prog 30 #[ptr X.f, i64 n] w fun e w' => e = .returned (i64 4) ∧ Below w.heap.size w w' := by
  have ha := asked69 h n
  rw [he] at ha
  have hgt := fun wx (hb : Below w.heap.size w wx) => get82 (h.below hb) n hn
  rw [hg] at hgt
  have c13 := fun wx (hb : Below w.heap.size w wx) => (h.below hb).row.cell0 13 rfl
  rw [hdg] at c13
  have lf := h.f_lt
  have HA := Lib.hid ha
  have HG := Lib.hid hgt
  have HC := Lib.hid c13
  clear ha hgt hg he hn c13 h
  go_enter Tryz.func30, Tryz.ntmps30
  go_wp2_with fail
  refine HA.out.mono ?_
  rintro e w1 ⟨rfl, hb⟩
  have zb := hb.size
  have d13 : w1.cell? ⟨X.f, 13, none⟩ = some (.bool false) := HC.out w1 hb
  go_wp2_with fail
  refine (HG.out _ hb).mono ?_
  rintro e w2 ⟨⟨v, rfl, -⟩, rfl⟩
  go_wp2_with fail
  go_ret
  exact ⟨rfl, hb⟩

set_option maxHeartbeats 2000000 in
set_option maxRecDepth 100000 in
theorem write18_bad {w : World} {X : FA} {F : Fl} (h : FlashAt w X F) (n : Int) (he : F.asked n ≠ 0) (v : Value) : Calls Tryz.prog 18 #[ptr X.f, i64 n, v] w fun e w' => e = .returned (i64 (F.asked n)) ∧ Below w.heap.size w w' := by
  have ha := asked69 h n
  obtain ⟨h1, h2⟩ := i64_ne he
  generalize F.asked n = a at *
  have HA := Lib.hid ha
  clear ha
  go_enter Tryz.func18, Tryz.ntmps18
  go_wp2_with fail
  refine HA.out.mono ?_
  rintro e w1 ⟨rfl, hb⟩
  go_wp2_with fail
  go_ret
  exact ⟨rfl, by (repeat (first | exact Below.refl _ _ | assumption | (with_reducible refine Below.drew ?_) | (with_reducible refine below_drewN' ?_ _) | (with_reducible refine ext_alloc ?_ ?_; · (first | omega | (simp only [World.size_alloc, World.size_setCell, World.size_drew, World.heap_drewN]; omega) | (simp; omega))) | (with_reducible refine ext_setCell ?_ ?_; · (first | omega | (simp only [World.size_alloc, World.size_setCell, World.size_drew, World.heap_drewN]; omega) | (simp; omega))) | (refine ext_call (by assumption) ?_ ?_; · (first | omega | (simp only [World.size_alloc, World.size_setCell, World.size_drew, World.heap_drewN]; omega) | (simp; omega)))))⟩

set_option maxHeartbeats 2000000 in
set_option maxRecDepth 100000 in
theorem write18_len {w : World} {X : FA} {F : Fl} (h : FlashAt w X F) (n : Int) (he : F.asked n = 0) (A : Option Addr) (m cap : Nat) (hm : (m : Int) ≠ F.C.g.Y) : Calls Tryz.prog 18 #[ptr X.f, i64 n, .slice A m cap] w fun e w' => e = .returned (i64 2) ∧ Below w.heap.size w w' := by
  have ha := asked69 h n
  rw [he] at ha
  have lf := h.f_lt
  have c3 := fun wx (hb : Below w.heap.size w wx) => (h.below hb).row.cell0 3 rfl
  have hlb : ((m : Int) != F.C.g.Y) = true := by simpa using hm
  have HA := Lib.hid ha
  have HC := Lib.hid c3
  clear ha c3 h he
  go_enter Tryz.func18, Tryz.ntmps18
  go_wp2_with fail
  refine HA.out.mono ?_
  rintro e w1 ⟨rfl, hb⟩
  have zb := hb.size
  have d3 : w1.cell? ⟨X.f, 3, none⟩ = some (i64 F.C.g.Y) := HC.out w1 hb
  go_wp2_with fail
  go_ret
  exact ⟨rfl, by (repeat (first | exact Below.refl _ _ | assumption | (with_reducible refine Below.drew ?_) | (with_reducible refine below_drewN' ?_ _) | (with_reducible refine ext_alloc ?_ ?_; · (first | omega | (simp only [World.size_alloc, World.size_setCell, World.size_drew, World.heap_drewN]; omega) | (simp; omega))) | (with_reducible refine ext_setCell ?_ ?_; · (first | omega | (simp only [World.size_alloc, World.size_setCell, World.size_drew, World.heap_drewN]; omega) | (simp; omega))) | (refine ext_call (by assumption) ?_ ?_; · (first | omega | (simp only [World.size_alloc, World.size_setCell, World.size_drew, World.heap_drewN]; omega) | (simp; omega)))))⟩

set_option maxHeartbeats 2000000 in
set_option maxRecDepth 100000 in
theorem flush20_off {w : World} {X : FA} {F : Fl} (h : FlashAt w X F) (hoff : F.C.off = true) : Calls Tryz.prog 20 #[ptr X.f] w fun e w' => e = .returned (i64 9) ∧ Below w.heap.size w w' := by
  have c0 := h.row.cell0 0 rfl
  have hon := on59 h.chip
  rw [hoff] at hon
  have HON := Lib.hid hon
  clear hon
  go_enter Tryz.func20, Tryz.ntmps20
  go_wp2_with fail
  refine HON.out.mono ?_
  rintro e w1 ⟨rfl, rfl⟩
  go_wp2_with fail
  go_ret
  exact ⟨rfl, by (repeat (first | exact Below.refl _ _ | assumption | (with_reducible refine Below.drew ?_) | (with_reducible refine below_drewN' ?_ _) | (with_reducible refine ext_alloc ?_ ?_; · (first | omega | (simp only [World.size_alloc, World.size_setCell, World.size_drew, World.heap_drewN]; omega) | (simp; omega))) | (with_reducible refine ext_setCell ?_ ?_; · (first | omega | (simp only [World.size_alloc, World.size_setCell, World.size_drew, World.heap_drewN]; omega) | (simp; omega))) | (refine ext_call (by assumption) ?_ ?_; · (first | omega | (simp only [World.size_alloc, World.size_setCell, World.size_drew, World.heap_drewN]; omega) | (simp; omega)))))⟩

set_option maxHeartbeats 2000000 in
set_option maxRecDepth 100000 in
theorem mount15_off {w : World} {A : CA} {C : Chip} (h : ChipAt w A C) (hoff : C.off = true) : Calls Tryz.prog 15 #[ptr A.c] w fun e w' => e = .returned (.tuple #[.pointer none, i64 9]) ∧ Below w.heap.size w w' := by
  have hon := on59 h
  rw [hoff] at hon
  have HON := Lib.hid hon
  clear hon
  go_enter Tryz.func15, Tryz.ntmps15
  go_wp2_with fail
  refine HON.out.mono ?_
  rintro e w1 ⟨rfl, rfl⟩
  go_wp2_with fail
  go_ret2
  exact ⟨rfl, by (repeat (first | exact Below.refl _ _ | assumption | (with_reducible refine Below.drew ?_) | (with_reducible refine below_drewN' ?_ _) | (with_reducible refine ext_alloc ?_ ?_; · (first | omega | (simp only [World.size_alloc, World.size_setCell, World.size_drew, World.heap_drewN]; omega) | (simp; omega))) | (with_reducible refine ext_setCell ?_ ?_; · (first | omega | (simp only [World.size_alloc, World.size_setCell, World.size_drew, World.heap_drewN]; omega) | (simp; omega))) | (refine ext_call (by assumption) ?_ ?_; · (first | omega | (simp only [World.size_alloc, World.size_setCell, World.size_drew, World.heap_drewN]; omega) | (simp; omega)))))⟩

/-- A flash whose bytes lie outside of E, too. -/
structure FlashX (E : Nat → Prop) (w : World) (X : FA) (F : Fl) : Prop where
  fl : FlashAt w X F
  found : FoundAt (fun k => X.mut k ∨ E k) w X.mf F.fd
  base : BaseAt (fun k => X.mut k ∨ E k) w X.mb F.base
  pend : PendAt (fun k => X.mut k ∨ E k) w X.mp F.pend F.np
  out : ∀ k, E k → ¬ X.mut k ∧ k < w.heap.size
  fa : X.A.fA = none

theorem BytesAt.mono {M M' : Nat → Prop} {w : World} {v : Value} {d : List Int} (h : BytesAt M w v d) (hm : ∀ k, M' k → M k) : BytesAt M' w v d := by
  obtain ⟨b, o, c, rfl, h1, h2, h3, h4⟩ := h
  exact ⟨b, o, c, rfl, h1, fun hk => h2 (hm b hk), h3, h4⟩
theorem Opt2At.mono {M M' : Nat → Prop} {w : World} {v : Option Value} {d : Option (Option (List Int))} (h : Opt2At M w v d) (hm : ∀ k, M' k → M k) : Opt2At M' w v d := by
  cases v with
  | none => cases d <;> simp only [Opt2At] at h ⊢
  | some v =>
    cases d with
    | none => simp only [Opt2At] at h
    | some d =>
      cases d with
      | none => simpa only [Opt2At] using h
      | some d => simp only [Opt2At] at h ⊢; exact h.mono hm
theorem PendAt.mono {M M' : Nat → Prop} {w : World} {b : Nat} {f : Int → Option (Option (List Int))} {np : Bool} (h : PendAt M w b f np) (hm : ∀ k, M' k → M k) : PendAt M' w b f np := by
  obtain ⟨l, h1, h2, h3, h4⟩ := h
  exact ⟨l, h1, h2, fun n => (h3 n).mono hm, h4⟩

/-- A flash that holds no bytes lies outside of all. -/
theorem FlashX.of_empty {E : Nat → Prop} {w : World} {X : FA} {F : Fl} (h : FlashAt w X F) (hf : F.fd = []) (hb : ∀ n, F.base n = none) (hp : ∀ n, F.pend n = none) (ho : ∀ k, E k → ¬ X.mut k ∧ k < w.heap.size) (hfa : X.A.fA = none) : FlashX E w X F := by
  refine ⟨h, ?_, ?_, ?_, ho, hfa⟩
  · obtain ⟨sl, h1, h2⟩ := h.found
    exact ⟨sl, h1, fun x hx => by rw [hf] at hx; cases hx⟩
  · obtain ⟨g, h1, h2⟩ := h.base
    refine ⟨g, h1, fun n => ?_⟩
    have := h2 n
    rw [hb n] at this ⊢
    cases hgn : g n with
    | none => trivial
    | some v => rw [hgn] at this; exact this.elim
  · obtain ⟨l, h1, h2, h3, h4⟩ := h.pend
    refine ⟨l, h1, h2, fun n => ?_, h4⟩
    have := h3 n
    rw [hp n] at this ⊢
    cases hgn : look l n with
    | none => trivial
    | some v => rw [hgn] at this; exact this.elim

/-- Writing into E leaves the flash. -/
theorem FlashX.turns {E : Nat → Prop} {w w' : World} {X : FA} {F : Fl} (h : FlashX E w X F) (ht : Turns E w w') : FlashAt w' X F := by
  have hm : ∀ k, k < w.heap.size → E k → X.mut k ∨ E k := fun _ _ hk => .inr hk
  have hx : ∀ k, X.mut k → X.mut k ∨ E k := fun _ hk => .inl hk
  have hn : ∀ k, X.mut k → ¬ E k := fun k hk he => (h.out k he).1 hk
  have hfd := h.found.turns ht hm (hn _ (.inr (.inr (.inl rfl))))
  have hba := h.base.turns ht hm (hn _ (.inr (.inr (.inr (.inl rfl)))))
  have hpe := h.pend.turns ht hm (hn _ (.inr (.inr (.inr (.inr (.inl rfl))))))
  refine ⟨h.fl.chip.turns ht (fun k hk => hn k (.inl hk)) (fun k o e _ => ?_), h.fl.row.turns ht (hn _ (.inr (.inl rfl))), ?_, ?_, ?_, h.fl.stale.turns ht (hn _ (.inr (.inr (.inr (.inr (.inr rfl)))))), h.fl.sep⟩
  · rw [h.fa] at e; cases e
  · obtain ⟨sl, h1, h2⟩ := hfd
    exact ⟨sl, h1, fun x hx' => (h2 x hx').mono hx⟩
  · obtain ⟨g, h1, h2⟩ := hba
    refine ⟨g, h1, fun n => ?_⟩
    have := h2 n
    cases hgn : g n <;> cases hfn : F.base n <;> rw [hgn, hfn] at this <;> simp only [OptAt] at this ⊢
    exact this.mono hx
  · exact hpe.mono hx
end Go.Proofs.YthghhcnpbehaiaaGreat

/- The flash: Write, and what lies outside; Read, and whose the bytes are. -/
namespace Go.Proofs.YthghhcnpbehaiaaGreat
open Go.RowKit

theorem FlashX.below {E : Nat → Prop} {w w' : World} {X : FA} {F : Fl} (h : FlashX E w X F) (hb : Below w.heap.size w w') : FlashX E w' X F := by
  have ht : Turns (fun _ => False) w w' := Turns.of_below hb
  exact ⟨h.fl.below hb, h.found.turns ht (fun _ _ h => h.elim) (fun h => h), h.base.turns ht (fun _ _ h => h.elim) (fun h => h), h.pend.turns ht (fun _ _ h => h.elim) (fun h => h), fun k hk => ⟨(h.out k hk).1, Nat.lt_of_lt_of_le (h.out k hk).2 hb.size⟩, h.fa⟩
theorem FlashX.put_pend {E : Nat → Prop} {w w' : World} {X : FA} {F : Fl} (h : FlashX E w X F) (f : Int → Option (Option (List Int))) (np : Bool) (hb : PendAt (fun k => X.mut k ∨ E k) w' X.mp f np) (ht : Turns (· = X.mp) w w') : FlashX E w' X { F with pend := f, np := np } := by
  have hmut : X.mut X.mp := .inr (.inr (.inr (.inr (.inl rfl))))
  have hmm : ∀ k, k < w.heap.size → k = X.mp → X.mut k ∨ E k := fun k _ hk => by rw [hk]; exact .inl hmut
  have hs' := h.fl.sep
  exact ⟨h.fl.put_pend f np (hb.mono fun _ hk => .inl hk) ht, h.found.turns ht hmm hs'.mf_mp, h.base.turns ht hmm hs'.mb_mp, hb, fun k hk => ⟨(h.out k hk).1, Nat.lt_of_lt_of_le (h.out k hk).2 ht.size⟩, h.fa⟩

set_option maxHeartbeats 2000000 in
set_option maxRecDepth 100000 in
theorem read33_own {w : World} {X : FA} {F : Fl} (h : FlashAt w X F) (n : Int) (he : F.asked n = 0) (hn : ok64 n) (d : List Int) (hg : F.get n = some d) (hl : d.length ≤ 100000) : Calls Tryz.prog 33 #[ptr X.f, i64 n] w fun e w' => (∃ v, e = .returned (.tuple #[v, i64 0]) ∧ w'.ownsRow w.heap.size 5 1 v d.length (d.map u8)) ∧ Below w.heap.size w w' := by
  have ha := asked69 h n
  rw [he] at ha
  have hgt := fun wx (hb : Below w.heap.size w wx) => get82 (h.below hb) n hn
  rw [hg] at hgt
  have HA := Lib.hid ha
  have HG := Lib.hid hgt
  clear ha hgt hg he hn
  go_enter Tryz.func33, Tryz.ntmps33
  go_wp2_with fail
  refine HA.out.mono ?_
  rintro e w1 ⟨rfl, hb⟩
  have zb := hb.size
  go_wp2_with fail
  refine (HG.out _ hb).mono ?_
  rintro e w2 ⟨⟨v, rfl, hv⟩, rfl⟩
  obtain ⟨b, o, c, rfl, r1, r2, r3, r4⟩ := hv d rfl
  have hcl := clone70o d b o c r3 hl (List.length_pos_iff.2 r4)
  have HCL := Lib.hid hcl
  clear hcl hv r1 r2 r3 r4
  go_wp2_with fail
  refine HCL.out.mono ?_
  rintro e w3 ⟨⟨v, rfl, hf⟩, hb3⟩
  have HF := Lib.hid hf
  clear hf
  go_wp2_with fail
  go_ret2
  refine ⟨⟨_, rfl, ?_⟩, by (repeat (first | exact Below.refl _ _ | assumption | (with_reducible refine Below.drew ?_) | (with_reducible refine below_drewN' ?_ _) | (with_reducible refine ext_alloc ?_ ?_; · (first | omega | (simp only [World.size_alloc, World.size_setCell, World.size_drew, World.heap_drewN]; omega) | (simp; omega))) | (with_reducible refine ext_setCell ?_ ?_; · (first | omega | (simp only [World.size_alloc, World.size_setCell, World.size_drew, World.heap_drewN]; omega) | (simp; omega))) | (refine ext_call (by assumption) ?_ ?_; · (first | omega | (simp only [World.size_alloc, World.size_setCell, World.size_drew, World.heap_drewN]; omega) | (simp; omega)))))⟩
  obtain ⟨p1, p2⟩ := HF.out
  refine ⟨p1, ?_⟩
  rcases p2 with p2 | ⟨g, cap, cur, q1, q2, q3⟩
  · exact .inl p2
  · exact .inr ⟨g, cap, cur, q1, Nat.le_trans zb q2, q3⟩

set_option maxHeartbeats 2000000 in
set_option maxRecDepth 100000 in
theorem write18x {E : Nat → Prop} {w : World} {X : FA} {F : Fl} (hx : FlashX E w X F) (n : Int) (he : F.asked n = 0) (hn : 0 ≤ n ∧ n < 1000) (hdg : F.deg = false) (hpd : ∀ m, F.pend m ≠ none → 0 ≤ m ∧ m < 1000) (d : List Int) (b off cap : Nat) (hr : Row w b off (d.map u8)) (hl : (d.length : Int) = F.C.g.Y) :
    Calls Tryz.prog 18 #[ptr X.f, i64 n, .slice (some ⟨b, off, none⟩) d.length cap] w fun e w' => e = .returned (i64 0) ∧ FlashX E w' X { F with pend := fput F.pend n (some (some d)), np := true } ∧ Turns X.mut w w' := by
  have h := hx.fl
  have hxb := fun wx (hb : Below w.heap.size w wx) => hx.below hb
  have HX := Lib.hid hxb
  have hol := fun k (hk : E k) => (hx.out k hk).2
  have HOL := Lib.hid hol
  clear hxb hol
  have hgo := (Geo.ok_iff _).1 h.chip.ok
  have y1 := hgo.y1
  have y2 := hgo.y2
  have hne : 0 < d.length := by omega
  have hd64 : d.length ≤ 64 := by omega
  have hdne : d ≠ [] := List.length_pos_iff.1 hne
  have ha := asked69 h n
  rw [he] at ha
  have HA := Lib.hid ha
  have HH := Lib.hid h
  have HPD := Lib.hid hpd
  have HR := Lib.hid hr
  have HDN := Lib.hid hdne
  have HDG := Lib.hid hdg
  have hlb : ((d.length : Int) != F.C.g.Y) = false := by simpa using hl
  clear hx ha h hpd hr hdne hdg he hgo hl
  go_enter Tryz.func18, Tryz.ntmps18
  go_wp2_with fail
  refine HA.out.mono ?_
  rintro e w1 ⟨rfl, hb⟩
  have zb := hb.size
  have hF1 := HH.out.below hb
  have c3 : w1.cell? ⟨X.f, 3, none⟩ = some (i64 F.C.g.Y) := hF1.row.cell0 3 rfl
  have c13 : w1.cell? ⟨X.f, 13, none⟩ = some (.bool false) := by have := hF1.row.cell0 13 rfl; rw [HDG.out] at this; exact this
  have c8 : w1.cell? ⟨X.f, 8, none⟩ = some (.map (some X.mp)) := hF1.row.cell0 8 rfl
  have HF1 := Lib.hid hF1
  have lf := hF1.f_lt
  clear hF1
  go_wp2_with fail
  apply wp_region_rel 7 (fun e w' => Below w1.heap.size w1 w' ∧ Hid (∀ u, e 6 = some u → Fresh w1.heap.size w' d u)) [[], [], [], [], [], [], []]
  · kernel_rfl
  · kernel_rfl
  · exact ⟨(Below.refl _ _).drew, fun u hu => by cases hu⟩
  · kernel_rfl
  simp only [List.take_succ_cons, List.take_zero, List.drop_succ_cons, List.drop_zero]
  iterate 3 (apply rel_val; (· rfl); (· (intro e' w' hD he hJ; skip; refine relv_of (by (go_simp; first | rfl | exact ⟨rfl, rfl⟩)) ⟨rfl, ?_⟩; exact ⟨hJ.1, fun u hu => hJ.2.out u (by rw [Env.put_ne _ (by decide)] at hu; exact hu)⟩)); simp only [Act.put, List.setIfInBounds_toArray, List.set_cons_zero, List.set_cons_succ])
  (apply rel_val (v := .map (some X.mp)); (· rfl); (· (intro e' w' hD he hJ; (obtain ⟨hc', hf'⟩ := bcell hJ.1); refine relv_of (u := .map (some X.mp)) (w := w') (by go_simp) ⟨rfl, ?_⟩; exact ⟨hJ.1, fun u hu => hJ.2.out u (by rw [Env.put_ne _ (by decide)] at hu; exact hu)⟩)); simp only [Act.put, List.setIfInBounds_toArray, List.set_cons_zero, List.set_cons_succ])
  iterate 2 (apply rel_val; (· rfl); (· (intro e' w' hD he hJ; skip; refine relv_of (by (go_simp; first | rfl | exact ⟨rfl, rfl⟩)) ⟨rfl, ?_⟩; exact ⟨hJ.1, fun u hu => hJ.2.out u (by rw [Env.put_ne _ (by decide)] at hu; exact hu)⟩)); simp only [Act.put, List.setIfInBounds_toArray, List.set_cons_zero, List.set_cons_succ])
  apply rel_yes (φ := fun _ u => ∃ g c : Nat, u = .slice (some ⟨g, 0, none⟩) d.length c)
  · rfl
  · exact ⟨_, 0, 0, rfl⟩
  · intro e' w' hD he' hJ
    refine rel_call (by (go_simp; first | rfl | exact ⟨⟨rfl, rfl⟩, rfl⟩)) ?_
    have hcl := clone70 d b off cap ((HR.out.below hb).below hJ.1) (by omega) hne
    refine hcl.mono ?_
    rintro e w2 ⟨⟨v, rfl, hf⟩, hb2⟩
    have hz := hJ.1.size
    obtain ⟨g, c, hv, f1, f2, f3, f4⟩ := hf
    refine ⟨v, rfl, ⟨g, c, hv⟩, ext_call hb2 hz hJ.1, fun u hu => ?_⟩
    rw [Env.put_self] at hu
    cases hu
    exact ⟨g, c, hv, by omega, f2, f3, f4⟩
  · rintro v ⟨g, c, rfl⟩
    simp only [Act.put, List.setIfInBounds_toArray, List.set_cons_zero, List.set_cons_succ]
    apply rel_nil
    rintro w2 ⟨hb2, hJ⟩
    have hfr := hJ.out _ (Env.put_self _ _ _)
    have z2 := hb2.size
    have hF2 := HF1.out.below hb2
    have hX2 := (HX.out _ hb).below hb2
    obtain ⟨l, hm, hok, hp, hnp, hll⟩ := hX2.pend
    have HX2 := Lib.hid hX2
    clear hX2
    have hv : BytesAt (fun k => X.mut k ∨ E k) w2 (.slice (some ⟨g, 0, none⟩) d.length c) d := BytesAt.of_fresh hfr (fun k hk => hk.elim (fun hk => HF1.out.mut_lt hk) (fun hk => Nat.lt_of_lt_of_le (HOL.out k hk) zb)) HDN.out
    have HF2 := Lib.hid hF2
    have HM := Lib.hid hm
    have HP := Lib.hid hp
    have HO := Lib.hid hok
    have HV := Lib.hid hv
    clear hF2 hm hok hp hnp hll hv hfr hJ c3 c8 c13
    go_wp2_with (at_mapUpdate; refine stopT ?_)
    unfold Go.RowKit.Hid
    refine wpl_update rfl _ _ _ _ rfl rfl HM.out keysI HO.out Tryz.underlying98 n rfl (by simp only [ok64]; omega) (.slice (some ⟨g, 0, none⟩) d.length c) rfl ?_
    intro w3 hM3 hT3 hz3
    have hpn := PendAt.put (M := fun k => X.mut k ∨ E k) (w := w2) (o := some d) HPD.out HP.out n hn (by exact HV.out) hM3 hT3 (.inl (.inr (.inr (.inr (.inr (.inl rfl))))))
    have hF3 := HX2.out.put_pend _ true hpn hT3
    have hTT : Turns X.mut w w3 := ((Turns.of_below hb).trans (Turns.of_below hb2)).trans (hT3.mono (fun k _ hk => by rw [hk]; exact .inr (.inr (.inr (.inr (.inl rfl))))))
    have HF3 := Lib.hid hF3
    have HTT := Lib.hid hTT
    clear hF3 hTT hpn hM3 hT3 hz3
    go_wp2_with fail
    go_ret
    exact ⟨rfl, HF3.out, HTT.out⟩
end Go.Proofs.YthghhcnpbehaiaaGreat

/- A flash on a new chip, of any geometry that may be. -/
namespace Go.Proofs.YthghhcnpbehaiaaGreat
open Go.RowKit

theorem cont_new {g : Geo} (hg : g.okB = true) : Cont (Chip.new g) pg0 := by
  intro p b hp hb _
  have hb' : b = ⟨List.replicate (g.P * (g.Y + 16)).toNat 255, 0, 0, 0⟩ := at_rep (n := g.B.toNat) (i := p.b) hb
  subst hb'
  have h1 := num_bounds hg hp
  have hgo := (Geo.ok_iff _).1 hg
  have y1 := hgo.y1
  obtain ⟨_, _, _, _, _, p0, p1⟩ := h1
  show Blk.page ⟨List.replicate (g.P * (g.Y + 16)).toNat 255, 0, 0, 0⟩ p.p.toNat (g.Y + 16).toNat = List.replicate (g.Y + 16).toNat 255
  simp only [Blk.page, List.drop_replicate, List.take_replicate]
  congr 1
  obtain ⟨P, hP⟩ : ∃ P : Nat, g.P = P := ⟨g.P.toNat, by omega⟩
  obtain ⟨y, hy⟩ : ∃ y : Nat, g.Y + 16 = y := ⟨(g.Y + 16).toNat, by omega⟩
  obtain ⟨q, hq⟩ : ∃ q : Nat, p.p = q := ⟨p.p.toNat, by omega⟩
  rw [hP, hy, hq, Int.toNat_natCast, Int.toNat_natCast]
  have e : ((P : Int) * (y : Int)).toNat = P * y := by rw [← Int.natCast_mul, Int.toNat_natCast]
  rw [e]
  have hlt : q < P := by omega
  have := nat_mul_lt (y := y) hlt
  omega

/-- The flash on a new chip. -/
def FN (g : Geo) : Fl := mounted (Chip.new g) pg0 (g.B * g.P).toNat

theorem fd_none (C : Chip) : ∀ N, fdOf C pg0 N = [] := by
  intro N
  rw [fdOf, List.filterMap_eq_nil_iff]
  intro i _
  simp [fnd1, pg0]
theorem FN_fd (g : Geo) : (FN g).fd = [] := fd_none _ _
theorem FN_base (g : Geo) : ∀ n, (FN g).base n = none := by
  intro n
  have : (FN g).base = baseOf (fdOf (Chip.new g) pg0 (g.B * g.P).toNat) := rfl
  rw [this, fd_none]; rfl
theorem FN_pend (g : Geo) : ∀ n, (FN g).pend n = none := fun _ => rfl
theorem FN_get (g : Geo) (n : Int) : (FN g).get n = none := by
  simp [Fl.get, FN_pend, FN_base]
theorem FN_ops {g : Geo} (hg : g.okB = true) : 0 ≤ (FN g).C.ops ∧ (FN g).C.ops ≤ 1000 := by
  have hgo := (Geo.ok_iff _).1 hg
  have b1 := hgo.b1; have b2 := hgo.b2; have p1 := hgo.p1; have p2 := hgo.p2
  have h1 : g.B * g.P ≤ 20 * 8 := Int.mul_le_mul b2 p2 (by omega) (by omega)
  have e : (FN g).C.ops = 0 + cnt (fun i => !(Chip.new g).badB ((Chip.new g).g.place i).b) (g.B * g.P).toNat := rfl
  have hc := cnt_le (fun i => !(Chip.new g).badB ((Chip.new g).g.place i).b) (g.B * g.P).toNat
  rw [e]
  omega
theorem new_N {g : Geo} (hg : g.okB = true) : (((g.B * g.P).toNat : Nat) : Int) = (Chip.new g).g.B * (Chip.new g).g.P := by
  have hgo := (Geo.ok_iff _).1 hg
  have : 0 ≤ g.B * g.P := Int.mul_nonneg (by have := hgo.b1; omega) (by have := hgo.p1; omega)
  show _ = g.B * g.P
  omega
theorem isB_00 {g : Geo} (hg : g.okB = true) : g.isB ⟨0, 0⟩ = true := by
  have hgo := (Geo.ok_iff _).1 hg
  have b1 := hgo.b1; have p1 := hgo.p1
  simp only [Geo.isB, Bool.and_eq_true, inB_iff]
  omega
theorem logical_bounds {g : Geo} (hg : g.okB = true) : 1 ≤ g.logical ∧ g.logical ≤ 160 := by
  have hgo := (Geo.ok_iff _).1 hg
  have e : g.logical = g.half := by simp [Geo.logical, hg]
  have h1 := hgo.h1
  have h2 := half_bounds hgo.b1 hgo.b2 hgo.p1 hgo.p2 hgo.s1 hgo.s2
  unfold Geo.half at e h1
  omega
/-- Mount on a new chip. -/
theorem mount_new {w : World} {A : CA} {g : Geo} (hg : g.okB = true) (h : ChipAt w A (Chip.new g)) (hfA : A.fA = none) :
    Calls Tryz.prog 15 #[ptr A.c] w fun e w' => ∃ X : FA, e = .returned (.tuple #[ptr X.f, i64 0]) ∧ X.A = A ∧ (∀ k, X.mut k → A.foot k ∨ w.heap.size ≤ k) ∧ FlashAt w' X (FN g) ∧ Turns A.foot w w' :=
  mount15 h (fun k o e => by rw [hfA] at e; cases e) pg0 (cont_new hg) rfl rfl (by show (0 : Int) < _; omega) (by rw [lost_nil rfl]; have := ((Geo.ok_iff _).1 hg).s1; show (0 : Int) ≤ g.S; omega) _ (new_N hg)
end Go.Proofs.YthghhcnpbehaiaaGreat
