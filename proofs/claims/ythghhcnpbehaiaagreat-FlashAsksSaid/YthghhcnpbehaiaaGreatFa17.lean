/- The flash: list. -/
import Derived.Test.YthghhcnpbehaiaaGreatFa10
import Derived.Test.YthghhcnpbehaiaaGreatFa16

namespace Go.Proofs.YthghhcnpbehaiaaGreat
open Go.RowKit

/-- What a valid page holds, and where it is. -/
structure Fnd where
  (at_ : Plc) (tag : Tag) (data : List Int)
def Fnd.pt (x : Fnd) : PT := ⟨x.at_, x.tag⟩
abbrev pageV (t : Tag) (s : Value) : Value := .agg #[i64 t.kind, i64 t.page, i64 t.seq, i64 t.epoch, s]
def tagIn : Value → Tag
  | .agg #[.int _ a, .int _ b, .int _ c, .int _ d, _] => ⟨a, b, c, d⟩
  | _ => ⟨0, 0, 0, 0⟩
def ptIn (e : Plc × Value) : PT := ⟨e.1, tagIn e.2⟩
theorem ptIn_page (p : Plc) (t : Tag) (s : Value) : ptIn (p, pageV t s) = ⟨p, t⟩ := rfl
def entry (sl : Plc → Value) (x : Fnd) : Plc × Value := (x.at_, pageV x.tag (sl x.at_))
theorem map_entry (sl : Plc → Value) (fd : List Fnd) : (fd.map (entry sl)).map ptIn = fd.map Fnd.pt := by
  rw [List.map_map]; rfl

theorem perm_sorted {α : Type} (key : α → Int) : ∀ {l T : List α}, l.Perm T → l.Pairwise (fun x y => key x ≤ key y) → T.Pairwise (fun x y => key x < key y) → l = T
  | [], T, h, _, _ => h.nil_eq
  | x :: l, [], h, _, _ => by have := h.length_eq; simp at this
  | x :: l, y :: T, h, h1, h2 => by
    obtain ⟨a1, a2⟩ := List.pairwise_cons.1 h1
    obtain ⟨b1, b2⟩ := List.pairwise_cons.1 h2
    have hx : x = y := by
      rcases List.mem_cons.1 (h.mem_iff.1 List.mem_cons_self) with e | hx
      · exact e
      · rcases List.mem_cons.1 (h.mem_iff.2 (List.mem_cons_self (a := y) (l := T))) with e | hy
        · exact e.symm
        · have := b1 x hx; have := a1 y hy; omega
    subst hx
    rw [perm_sorted key (List.Perm.cons_inv h) a2 b2]

theorem IterAt.left_eq {α : Type} {w : World} {mk : α → Value} {b r : Nat} {l todo : List (α × Value)} (h : IterAt w mk b r l todo) : w.rangeLeft b r = todo.length := by
  obtain ⟨es, c, since, seen, c0, h1, h2, h3, h4, h5, h6, h7, h8, h9, h10⟩ := h
  simp only [World.rangeLeft, h1, h6]
  have := h10.length_eq
  simpa using this

theorem own_off {w : World} {base e size n k : Nat} {v : Value} {xs : List Value} (h : w.ownsRow base e size v n xs) (hk : k < base) : v.ownBlock = none ∨ v.ownBlock ≠ some k := by
  by_cases hx : v.ownBlock = none
  · exact .inl hx
  · refine .inr fun e => ?_
    have := (h.lt _ e).1
    omega

def keepPT (wo : Int) (x : PT) : Bool := x.at_.b != wo
/-- All valid pages, but those of a block, as a call of list tells them. -/
def listOf (wo : Int) (fd : List Fnd) : List PT := (fd.map Fnd.pt).filter (keepPT wo)

set_option maxHeartbeats 2000000 in
set_option maxRecDepth 100000 in
theorem list65 {w : World} {f mf : Nat} {A : CA} {C : Chip} (h : Hd w f A C) (c6 : w.cell? ⟨f, 6, none⟩ = some (.map (some mf))) (fd : List Fnd) (sl : Plc → Value) (hm : MapAt w Plc.v mf (fd.map (entry sl)))
    (hso : fd.Pairwise (fun x y => C.g.numZ x.at_ < C.g.numZ y.at_)) (hl : fd.length ≤ 160) (hsl : ∀ x ∈ fd, ∃ A n c, sl x.at_ = .slice A n c) (wo : Int) :
    Calls Tryz.prog 65 #[ptr f, i64 wo] w fun e w' => (∃ v A' cap, e = .returned v ∧ v = .slice A' (listOf wo fd).length cap ∧ SlAt w' v (listOf wo fd).length ((listOf wo fd).flatMap PT.cells)) ∧ Below w.heap.size w w' := by
  obtain ⟨i0, hi, hz0, hz1, hz2'⟩ := info_parts info114
  have lf := h.f_lt
  have lmf := hm.lt
  have HM := Lib.hid hm
  have HH := Lib.hid h
  have HSO := Lib.hid hso
  have HS := Lib.hid hsl
  clear hm h hso hsl
  have hlf : f < w.heap.size + 1 := by omega
  have nf : f ≠ w.heap.size := by omega
  go_enter Tryz.func65, Tryz.ntmps65
  go_wp2_with (at_range; refine stopT ?_)
  unfold Go.RowKit.Hid
  refine wpl_range rfl _ _ rfl rfl ((HM.out.below (by (repeat (first | exact Below.refl _ _ | assumption | (with_reducible refine Below.drew ?_) | (with_reducible refine below_drewN' ?_ _) | (with_reducible refine ext_alloc ?_ ?_; · (first | omega | (simp only [World.size_alloc, World.size_setCell, World.size_drew, World.heap_drewN]; omega) | (simp; omega))) | (with_reducible refine ext_setCell ?_ ?_; · (first | omega | (simp only [World.size_alloc, World.size_setCell, World.size_drew, World.heap_drewN]; omega) | (simp; omega))) | (refine ext_call (by assumption) ?_ ?_; · (first | omega | (simp only [World.size_alloc, World.size_setCell, World.size_drew, World.heap_drewN]; omega) | (simp; omega)))))))) Tryz.underlying97 fun ob hit => ?_
  have hit' : IterAt ((w.alloc (.cells #[ptr f] 30)).alloc ob) Plc.v mf (w.heap.size + 1) (fd.map (entry sl)) (fd.map (entry sl)) := by simpa using hit
  have HIT := Lib.hid hit'
  clear hit hit'
  have hcb : ((w.alloc (.cells #[ptr f] 30)).alloc ob).cell? ⟨w.heap.size, 0, none⟩ = some (ptr f) := by simp
  rw [World.size_alloc]
  go_wp2_with fail
  go_frame
  go_loopw [5] (fun r wr => ∃ (dl : List PT) (todo : List (Plc × Value)), Hid (IterAt wr Plc.v mf (w.heap.size + 1) (fd.map (entry sl)) todo) ∧ Hid (∀ e ∈ todo, ∃ t s1 s2 s3, e.2 = pageV t (.slice s1 s2 s3)) ∧ Hid ((dl ++ todo.map ptIn).Perm (fd.map Fnd.pt)) ∧ Below w.heap.size w wr ∧
    Hid (wr.ownsRow (w.heap.size + 2) 114 6 r (dl.filter (keepPT wo)).length ((dl.filter (keepPT wo)).flatMap PT.cells)) ∧ wr.cell? ⟨w.heap.size, 0, none⟩ = some (ptr f) ∧ w.heap.size + 1 < wr.heap.size) (fun _ wr => wr.rangeLeft mf (w.heap.size + 1))
  case atStart =>
    refine ⟨[], fd.map (entry sl), HIT, fun e he => ?_, ?_, by (repeat (first | exact Below.refl _ _ | assumption | (with_reducible refine Below.drew ?_) | (with_reducible refine below_drewN' ?_ _) | (with_reducible refine ext_alloc ?_ ?_; · (first | omega | (simp only [World.size_alloc, World.size_setCell, World.size_drew, World.heap_drewN]; omega) | (simp; omega))) | (with_reducible refine ext_setCell ?_ ?_; · (first | omega | (simp only [World.size_alloc, World.size_setCell, World.size_drew, World.heap_drewN]; omega) | (simp; omega))) | (refine ext_call (by assumption) ?_ ?_; · (first | omega | (simp only [World.size_alloc, World.size_setCell, World.size_drew, World.heap_drewN]; omega) | (simp; omega))))), World.ownsRow_nil _ _ _ _, hcb, by simp⟩
    · obtain ⟨x, hx, rfl⟩ := List.mem_map.1 he
      obtain ⟨s1, s2, s3, e⟩ := HS.out x hx
      exact ⟨x.tag, s1, s2, s3, by rw [← e]; rfl⟩
    · show ([] ++ (fd.map (entry sl)).map ptIn).Perm _
      rw [List.nil_append, map_entry]
  case round =>
    obtain ⟨dl, todo, hit, hform, hperm, hbr, hown, hcq, hzr⟩ := hrel
    have hz := hbr.size
    have hlen : dl.length + todo.length = fd.length := by have := hperm.out.length_eq; simpa using this
    have hflt : (dl.filter (keepPT wo)).length ≤ dl.length := List.length_filter_le _ _
    have hH := HH.out.below hbr
    have HHr := Lib.hid hH
    clear hH
    go_wp2_with (at_next; refine stopT ?_)
    unfold Go.RowKit.Hid
    refine wpl_next rfl _ rfl rfl hit.out (fun htodo => ?_) (fun p v todo' w2 hp hT hz2 hd2 hen hit2 => ?_)
    · subst htodo
      have hdl : (dl.filter (keepPT wo)).Perm (listOf wo fd) := by
        have := hperm.out
        rw [List.map_nil, List.append_nil] at this
        exact this.filter _
      have hown' := hown.out
      rw [hdl.length_eq] at hown'
      have hll : (listOf wo fd).length ≤ 160 := by rw [← hdl.length_eq]; omega
      have hTs : (listOf wo fd).Pairwise (fun x y => C.g.numZ x.at_ < C.g.numZ y.at_) := by
        unfold listOf
        have h0 : (fd.map Fnd.pt).Pairwise (fun x y => C.g.numZ x.at_ < C.g.numZ y.at_) := List.pairwise_map.2 HSO.out
        exact h0.filter _
      have HDL := Lib.hid hdl
      have HTS := Lib.hid hTs
      clear hdl hTs hperm hform
      by_cases hn : (listOf wo fd).length = 0
      · have h0 : listOf wo fd = [] := List.length_eq_zero_iff.1 hn
        rw [hn] at hown'
        obtain ⟨hsl, A', cap, rfl⟩ := own_slat hown' (by decide)
        have hnone := fun W => AnyF.slices_SortFunc_none Tryz.sortF A' cap (.func (.func 109) #[] #[ptr w.heap.size]) W
        change ∀ W, Calls Tryz.prog 108 _ _ _ at hnone
        have HN := Lib.hid hnone
        have hres : SlAt wr (.slice A' 0 cap) (listOf wo fd).length ((listOf wo fd).flatMap PT.cells) ∧ Value.slice A' 0 cap = .slice A' (listOf wo fd).length cap := by
          rw [h0]
          exact ⟨⟨A', cap, rfl, Nat.zero_le _, .inl rfl⟩, rfl⟩
        have HRES := Lib.hid hres
        clear hnone hown' hown hsl h0 hres
        go_wp2_with fail
        refine (HN.out _).mono ?_
        rintro e w3 ⟨rfl, rfl⟩
        go_wp2_with fail
        go_ret
        exact ⟨⟨.slice A' 0 cap, A', cap, rfl, HRES.out.2, HRES.out.1.below (by (repeat (first | exact Below.refl _ _ | assumption | (with_reducible refine Below.drew ?_) | (with_reducible refine below_drewN' ?_ _) | (with_reducible refine ext_alloc ?_ ?_; · (first | omega | (simp only [World.size_alloc, World.size_setCell, World.size_drew, World.heap_drewN]; omega) | (simp; omega))) | (with_reducible refine ext_setCell ?_ ?_; · (first | omega | (simp only [World.size_alloc, World.size_setCell, World.size_drew, World.heap_drewN]; omega) | (simp; omega))) | (refine ext_call (by assumption) ?_ ?_; · (first | omega | (simp only [World.size_alloc, World.size_setCell, World.size_drew, World.heap_drewN]; omega) | (simp; omega))))))⟩, by (repeat (first | exact Below.refl _ _ | assumption | (with_reducible refine Below.drew ?_) | (with_reducible refine below_drewN' ?_ _) | (with_reducible refine ext_alloc ?_ ?_; · (first | omega | (simp only [World.size_alloc, World.size_setCell, World.size_drew, World.heap_drewN]; omega) | (simp; omega))) | (with_reducible refine ext_setCell ?_ ?_; · (first | omega | (simp only [World.size_alloc, World.size_setCell, World.size_drew, World.heap_drewN]; omega) | (simp; omega))) | (refine ext_call (by assumption) ?_ ?_; · (first | omega | (simp only [World.size_alloc, World.size_setCell, World.size_drew, World.heap_drewN]; omega) | (simp; omega)))))⟩
      · obtain ⟨hsl, A', cap, rfl⟩ := own_slat hown' (by decide)
        have hown2 := hown'
        obtain ⟨hl0, ⟨h1, _⟩ | ⟨g', cap', cur, hv, hb, hh, hc1, hc2, hs', ht⟩⟩ := hown2
        · simp only [Value.slice.injEq] at h1; omega
        simp only [Value.slice.injEq] at hv
        obtain ⟨rfl, -, rfl⟩ := hv
        have hlg := heap_lt hh
        have hrow : Row wr g' 0 ((dl.filter (keepPT wo)).flatMap PT.cells) := by
          obtain ⟨a1, c1, e1, -, hr | ⟨b1, o1, e2, hr⟩⟩ := hsl
          · exfalso
            have h6 := flat_len6 (dl.filter (keepPT wo))
            rw [hr] at h6
            have := HDL.out.length_eq
            rw [List.length_nil] at h6
            omega
          · simp only [Value.slice.injEq] at e1
            obtain ⟨rfl, -, -⟩ := e1
            injection e2 with e2
            injection e2 with e2 e3
            subst e2 e3
            exact hr
        have hq : ∀ W, Below wr.heap.size wr W → Calls Tryz.prog 108 #[.slice (some ⟨g', 0, none⟩) (listOf wo fd).length cap, .func (.func 109) #[] #[ptr w.heap.size]] W fun e w' => e = .returned (.tuple #[]) ∧ SlAt w' (.slice (some ⟨g', 0, none⟩) (listOf wo fd).length cap) (listOf wo fd).length ((listOf wo fd).flatMap PT.cells) ∧ Turns (· = g') W w' := by
          intro W hW
          have hs := sort108 C.g HHr.out.chip.ok f w.heap.size g' cap (ptr A.c) (dl.filter (keepPT wo)) W (keepc hW hcq) (HHr.out.row.below hW) (hrow.below hW) (by have := hW.size; omega) (by omega) (by omega) (by omega)
          rw [HDL.out.length_eq] at hs
          refine hs.mono ?_
          rintro e w' ⟨rfl, l', hp', hs', hr', ht'⟩
          have e1 : l' = listOf wo fd := perm_sorted (fun x : PT => C.g.numZ x.at_) (hp'.trans HDL.out) hs' HTS.out
          subst e1
          exact ⟨rfl, ⟨_, cap, rfl, hc1, .inr ⟨g', 0, rfl, hr'⟩⟩, ht'⟩
        have HQ := Lib.hid hq
        clear hq hrow hsl hown' hown hs' ht hh hl0
        go_wp2_with fail
        refine (HQ.out _ (by (repeat (first | exact Below.refl _ _ | assumption | (with_reducible refine Below.drew ?_) | (with_reducible refine below_drewN' ?_ _) | (with_reducible refine ext_alloc ?_ ?_; · (first | omega | (simp only [World.size_alloc, World.size_setCell, World.size_drew, World.heap_drewN]; omega) | (simp; omega))) | (with_reducible refine ext_setCell ?_ ?_; · (first | omega | (simp only [World.size_alloc, World.size_setCell, World.size_drew, World.heap_drewN]; omega) | (simp; omega))) | (refine ext_call (by assumption) ?_ ?_; · (first | omega | (simp only [World.size_alloc, World.size_setCell, World.size_drew, World.heap_drewN]; omega) | (simp; omega))))))).mono ?_
        rintro e w3 ⟨rfl, hS3, hT3⟩
        have z3 := hT3.size
        have HS3 := Lib.hid hS3
        clear hS3
        go_wp2_with fail
        go_ret
        exact ⟨⟨_, _, _, rfl, rfl, HS3.out⟩, ext_turns (by (repeat (first | exact Below.refl _ _ | assumption | (with_reducible refine Below.drew ?_) | (with_reducible refine below_drewN' ?_ _) | (with_reducible refine ext_alloc ?_ ?_; · (first | omega | (simp only [World.size_alloc, World.size_setCell, World.size_drew, World.heap_drewN]; omega) | (simp; omega))) | (with_reducible refine ext_setCell ?_ ?_; · (first | omega | (simp only [World.size_alloc, World.size_setCell, World.size_drew, World.heap_drewN]; omega) | (simp; omega))) | (refine ext_call (by assumption) ?_ ?_; · (first | omega | (simp only [World.size_alloc, World.size_setCell, World.size_drew, World.heap_drewN]; omega) | (simp; omega)))))) (by (first | omega | (simp only [World.size_alloc, World.size_setCell, World.size_drew, World.heap_drewN]; omega) | (simp; omega))) hT3 (fun k hk => by subst hk; omega)⟩
    · obtain ⟨t, s1, s2, s3, hv⟩ := hform.out (p, v) (hp.mem_iff.2 List.mem_cons_self)
      simp only at hv
      subst hv
      have hform2 : ∀ e ∈ todo', ∃ t s1 s2 s3, e.2 = pageV t (.slice s1 s2 s3) := fun e he => hform.out e (hp.mem_iff.2 (List.mem_cons_of_mem _ he))
      have hperm2 : ((dl ++ [(⟨p, t⟩ : PT)]) ++ todo'.map ptIn).Perm (fd.map Fnd.pt) := by
        have h1 := hp.map ptIn
        rw [List.map_cons, ptIn_page] at h1
        rw [List.append_assoc]
        exact (List.Perm.append_left dl h1.symm).trans hperm.out
      have hlen2 : todo.length = todo'.length + 1 := by have := hp.length_eq; simpa using this
      have hb2 : Below w.heap.size w w2 := ext_turns hbr hz hT (fun k hk => by subst hk; omega)
      have hcq2 : w2.cell? ⟨w.heap.size, 0, none⟩ = some (ptr f) := (hT.cell (p := ⟨w.heap.size, 0, none⟩) (by show w.heap.size < _; omega) (by simp)).trans hcq
      have hown2 := hown.out.kept (row := some (w.heap.size + 1)) ⟨hT.os, hT.tape, hT.output, hT.size, fun k hk hne => hT.block k hk (fun e => hne (by rw [e]))⟩ (own_off hown.out (by omega))
      have HIT2 := Lib.hid hit2
      have HF2 := Lib.hid hform2
      have HP2 := Lib.hid hperm2
      have HOWN := Lib.hid hown2
      have lr : w.heap.size + 1 < w2.heap.size := by omega
      have hz2a : wr.heap.size ≤ w2.heap.size := by omega
      clear hz2
      have zw2 : w.heap.size ≤ w2.heap.size := by omega
      have hmeas : ∀ W, IterAt W Plc.v mf (w.heap.size + 1) (fd.map (entry sl)) todo' → W.rangeLeft mf (w.heap.size + 1) < wr.rangeLeft mf (w.heap.size + 1) := fun W hW => by rw [hW.left_eq, hit.out.left_eq]; omega
      have HME := Lib.hid hmeas
      clear hit2 hform2 hperm2 hown2 hp hform hperm hown hit hmeas hT
      by_cases hk : p.b = wo
      · have k1 : (p.b != wo) = false := by simpa using hk
        have hfl : (dl ++ [(⟨p, t⟩ : PT)]).filter (keepPT wo) = dl.filter (keepPT wo) := by
          rw [List.filter_append]; simp [keepPT, hk]
        have HFL := Lib.hid hfl
        clear hk hfl
        go_wp2_with fail
        refine ⟨⟨dl ++ [(⟨p, t⟩ : PT)], todo', HIT2.out.below (by (repeat (first | exact Below.refl _ _ | assumption | (with_reducible refine Below.drew ?_) | (with_reducible refine below_drewN' ?_ _) | (with_reducible refine ext_alloc ?_ ?_; · (first | omega | (simp only [World.size_alloc, World.size_setCell, World.size_drew, World.heap_drewN]; omega) | (simp; omega))) | (with_reducible refine ext_setCell ?_ ?_; · (first | omega | (simp only [World.size_alloc, World.size_setCell, World.size_drew, World.heap_drewN]; omega) | (simp; omega))) | (refine ext_call (by assumption) ?_ ?_; · (first | omega | (simp only [World.size_alloc, World.size_setCell, World.size_drew, World.heap_drewN]; omega) | (simp; omega)))))), HF2, HP2, by (repeat (first | exact Below.refl _ _ | assumption | (with_reducible refine Below.drew ?_) | (with_reducible refine below_drewN' ?_ _) | (with_reducible refine ext_alloc ?_ ?_; · (first | omega | (simp only [World.size_alloc, World.size_setCell, World.size_drew, World.heap_drewN]; omega) | (simp; omega))) | (with_reducible refine ext_setCell ?_ ?_; · (first | omega | (simp only [World.size_alloc, World.size_setCell, World.size_drew, World.heap_drewN]; omega) | (simp; omega))) | (refine ext_call (by assumption) ?_ ?_; · (first | omega | (simp only [World.size_alloc, World.size_setCell, World.size_drew, World.heap_drewN]; omega) | (simp; omega))))), ?_, keepa (keepa hcq2), by (first | omega | (simp only [World.size_alloc, World.size_setCell, World.size_drew, World.heap_drewN]; omega) | (simp; omega))⟩, HME.out _ (HIT2.out.below (by (repeat (first | exact Below.refl _ _ | assumption | (with_reducible refine Below.drew ?_) | (with_reducible refine below_drewN' ?_ _) | (with_reducible refine ext_alloc ?_ ?_; · (first | omega | (simp only [World.size_alloc, World.size_setCell, World.size_drew, World.heap_drewN]; omega) | (simp; omega))) | (with_reducible refine ext_setCell ?_ ?_; · (first | omega | (simp only [World.size_alloc, World.size_setCell, World.size_drew, World.heap_drewN]; omega) | (simp; omega))) | (refine ext_call (by assumption) ?_ ?_; · (first | omega | (simp only [World.size_alloc, World.size_setCell, World.size_drew, World.heap_drewN]; omega) | (simp; omega)))))))⟩
        rw [HFL.out]
        exact own_below' HOWN.out (by (repeat (first | exact Below.refl _ _ | assumption | (with_reducible refine Below.drew ?_) | (with_reducible refine below_drewN' ?_ _) | (with_reducible refine ext_alloc ?_ ?_; · (first | omega | (simp only [World.size_alloc, World.size_setCell, World.size_drew, World.heap_drewN]; omega) | (simp; omega))) | (with_reducible refine ext_setCell ?_ ?_; · (first | omega | (simp only [World.size_alloc, World.size_setCell, World.size_drew, World.heap_drewN]; omega) | (simp; omega))) | (refine ext_call (by assumption) ?_ ?_; · (first | omega | (simp only [World.size_alloc, World.size_setCell, World.size_drew, World.heap_drewN]; omega) | (simp; omega))))))
      · have k1 : (p.b != wo) = true := by simpa using hk
        have hfl : (dl ++ [(⟨p, t⟩ : PT)]).filter (keepPT wo) = dl.filter (keepPT wo) ++ [⟨p, t⟩] := by
          rw [List.filter_append]; simp [keepPT, hk]
        have HFL := Lib.hid hfl
        clear hk hfl
        generalize dl.filter (keepPT wo) = dk at *
        have hl6 : (PT.cells ⟨p, t⟩).length = 1 * 6 := rfl
        go_wp2_with (at_builtin; refine stopT ?_)
        unfold Go.RowKit.Hid
        (refine wpList_append_own _ rfl _ _ 110 rfl (w.heap.size + 2) 114 i0 zero114 6 48 Tryz.underlying110 hi hz0 hz1 hz2' zero114_size (by decide) _ _ _ rfl (((HOWN.out.alloc _).alloc _).alloc _) ⟨w2.heap.size + 2, 0, none⟩ 1 1 (PT.cells ⟨p, t⟩) rfl hl6 ?c3 (PT.one _) (by unfold maxLen; omega) (by omega) (by simp; omega) ?_)
        case c3 =>
          intro j u hj
          have := PT.new6 ((w2.alloc (.cells #[i64 p.b, i64 p.p] 75)).alloc (.cells #[i64 t.kind, i64 t.page, i64 t.seq, i64 t.epoch, .slice s1 s2 s3] 109)) ⟨p, t⟩ 114 j u hj
          simpa using this
        intro v2 w3 hown3 hg3 hnil
        clear hnil
        have hgg : ∀ g, Value.ownBlock u5 = some g → w.heap.size + 2 ≤ g := fun g hg => (HOWN.out.lt g hg).1
        have hb3 : Below w.heap.size w w3 := (((hb2.alloc zw2 _).alloc (by simp; omega) _).alloc (by simp; omega) _).trans (grown_below hg3 (by simp; omega) (fun g hg' => by have := hgg g hg'; omega))
        have hit3 : IterAt w3 Plc.v mf (w.heap.size + 1) (fd.map (entry sl)) todo' := by
          have h1 := HIT2.out.below (((Below.refl w2.heap.size w2).alloc (Nat.le_refl _) (.cells #[i64 p.b, i64 p.p] 75)).alloc (by simp) (.cells #[i64 t.kind, i64 t.page, i64 t.seq, i64 t.epoch, .slice s1 s2 s3] 109) |>.alloc (by simp; omega) (.cells (PT.cells ⟨p, t⟩).toArray 114))
          refine h1.of_heap (hg3.block _ (by simp; omega) ?_) (hg3.block _ (by simp; omega) ?_)
          · intro e; have := hgg mf e.symm; omega
          · intro e; have := hgg _ e.symm; omega
        have hcq3 : w3.cell? ⟨w.heap.size, 0, none⟩ = some (ptr f) := by
          refine (World.cell?_of_block (hg3.block _ (by simp; omega) ?_)).trans (keepa (keepa (keepa hcq2)))
          intro e; have := hgg w.heap.size e.symm; omega
        have hz3 : w.heap.size + 1 < w3.heap.size := by have := hg3.size; simp at this; omega
        have HIT3 := Lib.hid hit3
        have HO3 := Lib.hid hown3
        clear hit3 hown3 hg3
        go_wp2_with fail
        refine ⟨⟨dl ++ [(⟨p, t⟩ : PT)], todo', HIT3, HF2, HP2, hb3, ?_, hcq3, hz3⟩, HME.out _ HIT3.out⟩
        rw [HFL.out, List.flatMap_append, List.length_append]
        have := HO3.out
        refine Lib.hid ?_
        simpa using this
end Go.Proofs.YthghhcnpbehaiaaGreat
