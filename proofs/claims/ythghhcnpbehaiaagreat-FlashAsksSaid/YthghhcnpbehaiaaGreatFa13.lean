/- rank: newest. -/
import Derived.Test.YthghhcnpbehaiaaGreatFa08
import Derived.Test.YthghhcnpbehaiaaGreatFa12

namespace Go.Proofs.YthghhcnpbehaiaaGreat
open Go.RowKit

theorem ext_turns {M : Nat → Prop} {n : Nat} {a b c : World} (h : Below n a b) (hn : n ≤ b.heap.size) (ht : Turns M b c) (hm : ∀ k, M k → n ≤ k) : Below n a c :=
  ⟨ht.os.trans h.os, ht.tape.trans h.tape, ht.output.trans h.output, Nat.le_trans h.size ht.size, fun k hk => (ht.block k (by omega) (fun m => by have := hm k m; omega)).trans (h.block k hk)⟩

def skipB (last : Int) (t : Tag) : Bool := (!(t.kind == 1) && !(t.kind == 2)) || decide (last < t.epoch)
def newestStep (last : Int) (f : Int → Option PT) (x : PT) : Int → Option PT :=
  if skipB last x.tag then f else match f x.tag.page with
    | none => fput f x.tag.page (some x)
    | some y => if newerB x.tag y.tag then fput f x.tag.page (some x) else f
def newestFrom (last : Int) (l : List PT) : Int → Option PT := l.foldl (newestStep last) fun _ => none
def newestOf (l : List PT) : Int → Option PT := newestFrom (lastOf l) l
theorem newest_snoc {last : Int} {l : List PT} {j : Nat} {x : PT} (h : l[j]? = some x) : newestFrom last (l.take (j + 1)) = newestStep last (newestFrom last (l.take j)) x := by
  rw [take_snoc' h, newestFrom, List.foldl_append]; rfl
def vals (f : Int → Option PT) : Int → Option Value := fun n => (f n).map PT.v
theorem vals_put (f : Int → Option PT) (n : Int) (x : PT) : vals (fput f n (some x)) = fput (vals f) n (some x.v) := by
  funext m; simp only [vals, fput]; split <;> rfl

set_option maxHeartbeats 2000000 in
set_option maxRecDepth 100000 in
theorem newest105 (l : List PT) (n : Nat) (hn : l.length = n) (A : Option Addr) (cap : Nat) (w : World) (hv : SlAt w (.slice A n cap) n (l.flatMap PT.cells)) (hl : n ≤ 1000) (hpg : ∀ x ∈ l, ok64 x.tag.page) :
    Calls Tryz.prog 105 #[.slice A n cap] w fun e w' => (∃ b, e = .returned (.map (some b)) ∧ w.heap.size ≤ b ∧ MapF w' i64 ok64 b (vals (newestOf l))) ∧ Below w.heap.size w w' := by
  subst hn
  have hlast := fun wx (hb : Below w.heap.size w wx) => last111 l l.length rfl A cap wx (hv.below hb) hl
  obtain ⟨a0, c0, hv0, -, hr⟩ := hv
  simp only [Value.slice.injEq] at hv0
  obtain ⟨rfl, -, rfl⟩ := hv0
  have hmm := @run_makeMap Tryz.prog
  rw [newestOf]
  generalize lastOf l = la at *
  have HL := Lib.hid hlast
  have HPG := Lib.hid hpg
  clear hlast hpg
  go_enter Tryz.func105, Tryz.ntmps105
  go_wp2_with fail
  refine (HL.out _ (Below.refl _ _)).mono ?_
  rintro e w1 ⟨rfl, hb1⟩
  have z1 := hb1.size
  go_wp2_with fail
  go_loopw [14] (fun i wr => ∃ j : Nat, j ≤ l.length ∧ i = .int .i64 j ∧ Hid (MapF wr i64 ok64 w1.heap.size (vals (newestFrom la (l.take j)))) ∧ Below w.heap.size w wr) (fun i _ => l.length - (RowKit.intOf i).toNat)
  case atStart => exact ⟨0, Nat.zero_le _, rfl, MapF.new _ _ _, hb1.alloc z1 _⟩
  case round =>
    obtain ⟨j, hj, rfl, hM, hbr⟩ := hrel
    have hz := hbr.size
    have j0 : (0 : Int) ≤ (j : Int) := by omega
    have hkw : IntKind.i64.wrap ((j : Int) + 1) = ((j + 1 : Nat) : Int) := by rw [IntWalk.i64_in _ (by omega)]; omega
    by_cases hlt' : j < l.length
    · obtain ⟨x, hx⟩ : ∃ x, l[j]? = some x := ⟨l[j], List.getElem?_eq_getElem hlt'⟩
      have hsn := newest_snoc (last := la) hx
      have hxp := HPG.out x (List.mem_of_getElem? hx)
      obtain hr | ⟨vb, off, rfl, hr⟩ := hr
      · exfalso
        have := flat_get PT.cells 6 (fun _ => rfl) l j 0 x _ hx rfl
        rw [hr] at this; simp at this
      have hrow := (hr.elem 6 (fun _ => rfl) hx).below hbr
      have c0 : wr.cell? ⟨vb, off + j * 6, none⟩ = some (i64 x.at_.b) := hrow.cell 0 rfl
      have c1 : wr.cell? ⟨vb, off + j * 6 + 1, none⟩ = some (i64 x.at_.p) := hrow.cell 1 rfl
      have c2 : wr.cell? ⟨vb, off + j * 6 + 2, none⟩ = some (i64 x.tag.kind) := hrow.cell 2 rfl
      have c3 : wr.cell? ⟨vb, off + j * 6 + 3, none⟩ = some (i64 x.tag.page) := hrow.cell 3 rfl
      have c4 : wr.cell? ⟨vb, off + j * 6 + 4, none⟩ = some (i64 x.tag.seq) := hrow.cell 4 rfl
      have c5 : wr.cell? ⟨vb, off + j * 6 + 5, none⟩ = some (i64 x.tag.epoch) := hrow.cell 5 rfl
      have hvb := World.block_lt_of_cell? _ _ c0
      have hBlt := hM.out.lt
      generalize newestFrom la (l.take j) = f at *
      have HXP := Lib.hid hxp
      have HX := Lib.hid hx
      clear hr hrow hx hxp
      cases hsk : skipB la x.tag
      · -- it counts
        simp only [newestStep, hsk, Bool.false_eq_true, if_false] at hsn
        have hep : ¬ la < x.tag.epoch := by
          intro h; simp [skipB, h] at hsk
        have hkk : x.tag.kind = 1 ∨ (x.tag.kind ≠ 1 ∧ x.tag.kind = 2) := by
          simp only [skipB, hep, decide_false, Bool.or_false, Bool.and_eq_false_iff, Bool.not_eq_false', beq_iff_eq] at hsk
          omega
        clear hsk
        cases hf : f x.tag.page with
        | none =>
          rw [hf] at hsn
          have hu : vals f x.tag.page = none := by simp [vals, hf]
          have HU := Lib.hid hu
          have HS := Lib.hid hsn
          clear hu hsn hf
          rcases hkk with hk | ⟨hk1, hk2⟩
          · have k1 : (x.tag.kind == 1) = true := by simpa using hk
            have k2 : (x.tag.kind != 1) = false := by simpa using hk
            clear hk
            go_wp2_with (first | (at_lookup; (apply wpl_look_none hM.out keysI Tryz.underlying142 Tryz.zeroValue114 x.tag.page HXP.out HU.out; (· (repeat (first | exact Below.refl _ _ | assumption | (with_reducible refine Below.drew ?_) | (with_reducible refine below_drewN' ?_ _) | (with_reducible refine ext_alloc ?_ ?_; · (first | omega | (simp only [World.size_alloc, World.size_setCell, World.size_drew, World.heap_drewN]; omega) | (simp; omega))) | (with_reducible refine ext_setCell ?_ ?_; · (first | omega | (simp only [World.size_alloc, World.size_setCell, World.size_drew, World.heap_drewN]; omega) | (simp; omega))) | (refine ext_call (by assumption) ?_ ?_; · (first | omega | (simp only [World.size_alloc, World.size_setCell, World.size_drew, World.heap_drewN]; omega) | (simp; omega)))))); (· rfl); (· rfl); (· rfl); (· rfl))) | (at_mapUpdate; (apply wpl_put hM.out keysI Tryz.underlying142 x.tag.page HXP.out x.v; (· (repeat (first | exact Below.refl _ _ | assumption | (with_reducible refine Below.drew ?_) | (with_reducible refine below_drewN' ?_ _) | (with_reducible refine ext_alloc ?_ ?_; · (first | omega | (simp only [World.size_alloc, World.size_setCell, World.size_drew, World.heap_drewN]; omega) | (simp; omega))) | (with_reducible refine ext_setCell ?_ ?_; · (first | omega | (simp only [World.size_alloc, World.size_setCell, World.size_drew, World.heap_drewN]; omega) | (simp; omega))) | (refine ext_call (by assumption) ?_ ?_; · (first | omega | (simp only [World.size_alloc, World.size_setCell, World.size_drew, World.heap_drewN]; omega) | (simp; omega)))))); (· rfl); (· rfl); (· rfl); (· rfl); (· rfl)); intro w5 hM5 ht5 hz5; have HM5 := Lib.hid hM5; clear hM5; (try simp only [World.size_alloc, World.size_setCell, World.size_drew, World.heap_drewN] at hz5)))
            refine ⟨⟨j + 1, by omega, ?_, ?_, ext_turns (by (repeat (first | exact Below.refl _ _ | assumption | (with_reducible refine Below.drew ?_) | (with_reducible refine below_drewN' ?_ _) | (with_reducible refine ext_alloc ?_ ?_; · (first | omega | (simp only [World.size_alloc, World.size_setCell, World.size_drew, World.heap_drewN]; omega) | (simp; omega))) | (with_reducible refine ext_setCell ?_ ?_; · (first | omega | (simp only [World.size_alloc, World.size_setCell, World.size_drew, World.heap_drewN]; omega) | (simp; omega))) | (refine ext_call (by assumption) ?_ ?_; · (first | omega | (simp only [World.size_alloc, World.size_setCell, World.size_drew, World.heap_drewN]; omega) | (simp; omega)))))) (by simp; omega) ht5 (fun k hk => by subst hk; omega)⟩, by simp [RowKit.intOf]; omega⟩
            · first | rfl | (congr 1; omega)
            · have := HM5.out; rw [HS.out]; rw [vals_put]; exact Lib.hid this
          · have k1 : (x.tag.kind == 1) = false := by simpa using hk1
            have k2 : (x.tag.kind != 1) = true := by simpa using hk1
            have k3 : (x.tag.kind == 2) = true := by simpa using hk2
            have k4 : (x.tag.kind != 2) = false := by simpa using hk2
            clear hk1 hk2
            go_wp2_with (first | (at_lookup; (apply wpl_look_none hM.out keysI Tryz.underlying142 Tryz.zeroValue114 x.tag.page HXP.out HU.out; (· (repeat (first | exact Below.refl _ _ | assumption | (with_reducible refine Below.drew ?_) | (with_reducible refine below_drewN' ?_ _) | (with_reducible refine ext_alloc ?_ ?_; · (first | omega | (simp only [World.size_alloc, World.size_setCell, World.size_drew, World.heap_drewN]; omega) | (simp; omega))) | (with_reducible refine ext_setCell ?_ ?_; · (first | omega | (simp only [World.size_alloc, World.size_setCell, World.size_drew, World.heap_drewN]; omega) | (simp; omega))) | (refine ext_call (by assumption) ?_ ?_; · (first | omega | (simp only [World.size_alloc, World.size_setCell, World.size_drew, World.heap_drewN]; omega) | (simp; omega)))))); (· rfl); (· rfl); (· rfl); (· rfl))) | (at_mapUpdate; (apply wpl_put hM.out keysI Tryz.underlying142 x.tag.page HXP.out x.v; (· (repeat (first | exact Below.refl _ _ | assumption | (with_reducible refine Below.drew ?_) | (with_reducible refine below_drewN' ?_ _) | (with_reducible refine ext_alloc ?_ ?_; · (first | omega | (simp only [World.size_alloc, World.size_setCell, World.size_drew, World.heap_drewN]; omega) | (simp; omega))) | (with_reducible refine ext_setCell ?_ ?_; · (first | omega | (simp only [World.size_alloc, World.size_setCell, World.size_drew, World.heap_drewN]; omega) | (simp; omega))) | (refine ext_call (by assumption) ?_ ?_; · (first | omega | (simp only [World.size_alloc, World.size_setCell, World.size_drew, World.heap_drewN]; omega) | (simp; omega)))))); (· rfl); (· rfl); (· rfl); (· rfl); (· rfl)); intro w5 hM5 ht5 hz5; have HM5 := Lib.hid hM5; clear hM5; (try simp only [World.size_alloc, World.size_setCell, World.size_drew, World.heap_drewN] at hz5)))
            refine ⟨⟨j + 1, by omega, ?_, ?_, ext_turns (by (repeat (first | exact Below.refl _ _ | assumption | (with_reducible refine Below.drew ?_) | (with_reducible refine below_drewN' ?_ _) | (with_reducible refine ext_alloc ?_ ?_; · (first | omega | (simp only [World.size_alloc, World.size_setCell, World.size_drew, World.heap_drewN]; omega) | (simp; omega))) | (with_reducible refine ext_setCell ?_ ?_; · (first | omega | (simp only [World.size_alloc, World.size_setCell, World.size_drew, World.heap_drewN]; omega) | (simp; omega))) | (refine ext_call (by assumption) ?_ ?_; · (first | omega | (simp only [World.size_alloc, World.size_setCell, World.size_drew, World.heap_drewN]; omega) | (simp; omega)))))) (by simp; omega) ht5 (fun k hk => by subst hk; omega)⟩, by simp [RowKit.intOf]; omega⟩
            · first | rfl | (congr 1; omega)
            · have := HM5.out; rw [HS.out]; rw [vals_put]; exact Lib.hid this
        | some y =>
          rw [hf] at hsn
          have hu : vals f x.tag.page = some y.v := by simp [vals, hf]
          have HU := Lib.hid hu
          have hct := fun wx => newer145 x.tag y.tag wx
          cases hnb : newerB x.tag y.tag
          · rw [hnb] at hct
            simp only [hnb, Bool.false_eq_true, if_false] at hsn
            have HS := Lib.hid hsn
            have HCT := Lib.hid hct
            clear hu hsn hf hct hnb
            rcases hkk with hk | ⟨hk1, hk2⟩
            · have k1 : (x.tag.kind == 1) = true := by simpa using hk
              have k2 : (x.tag.kind != 1) = false := by simpa using hk
              clear hk
              go_wp2_with (first | (at_lookup; (apply wpl_look_some hM.out keysI Tryz.underlying142 Tryz.zeroValue114 x.tag.page HXP.out HU.out; (· (repeat (first | exact Below.refl _ _ | assumption | (with_reducible refine Below.drew ?_) | (with_reducible refine below_drewN' ?_ _) | (with_reducible refine ext_alloc ?_ ?_; · (first | omega | (simp only [World.size_alloc, World.size_setCell, World.size_drew, World.heap_drewN]; omega) | (simp; omega))) | (with_reducible refine ext_setCell ?_ ?_; · (first | omega | (simp only [World.size_alloc, World.size_setCell, World.size_drew, World.heap_drewN]; omega) | (simp; omega))) | (refine ext_call (by assumption) ?_ ?_; · (first | omega | (simp only [World.size_alloc, World.size_setCell, World.size_drew, World.heap_drewN]; omega) | (simp; omega)))))); (· rfl); (· rfl); (· rfl); (· rfl))) | (go_at_call 145; refine (HCT.out _).mono ?_; rintro e w' ⟨rfl, hb⟩))
              refine ⟨⟨j + 1, by omega, ?_, ?_, by (repeat (first | exact Below.refl _ _ | assumption | (with_reducible refine Below.drew ?_) | (with_reducible refine below_drewN' ?_ _) | (with_reducible refine ext_alloc ?_ ?_; · (first | omega | (simp only [World.size_alloc, World.size_setCell, World.size_drew, World.heap_drewN]; omega) | (simp; omega))) | (with_reducible refine ext_setCell ?_ ?_; · (first | omega | (simp only [World.size_alloc, World.size_setCell, World.size_drew, World.heap_drewN]; omega) | (simp; omega))) | (refine ext_call (by assumption) ?_ ?_; · (first | omega | (simp only [World.size_alloc, World.size_setCell, World.size_drew, World.heap_drewN]; omega) | (simp; omega)))))⟩, by simp [RowKit.intOf]; omega⟩
              · first | rfl | (congr 1; omega)
              · rw [HS.out]; exact Lib.hid (hM.out.below (by (repeat (first | exact Below.refl _ _ | assumption | (with_reducible refine Below.drew ?_) | (with_reducible refine below_drewN' ?_ _) | (with_reducible refine ext_alloc ?_ ?_; · (first | omega | (simp only [World.size_alloc, World.size_setCell, World.size_drew, World.heap_drewN]; omega) | (simp; omega))) | (with_reducible refine ext_setCell ?_ ?_; · (first | omega | (simp only [World.size_alloc, World.size_setCell, World.size_drew, World.heap_drewN]; omega) | (simp; omega))) | (refine ext_call (by assumption) ?_ ?_; · (first | omega | (simp only [World.size_alloc, World.size_setCell, World.size_drew, World.heap_drewN]; omega) | (simp; omega)))))))
            · have k1 : (x.tag.kind == 1) = false := by simpa using hk1
              have k2 : (x.tag.kind != 1) = true := by simpa using hk1
              have k3 : (x.tag.kind == 2) = true := by simpa using hk2
              have k4 : (x.tag.kind != 2) = false := by simpa using hk2
              clear hk1 hk2
              go_wp2_with (first | (at_lookup; (apply wpl_look_some hM.out keysI Tryz.underlying142 Tryz.zeroValue114 x.tag.page HXP.out HU.out; (· (repeat (first | exact Below.refl _ _ | assumption | (with_reducible refine Below.drew ?_) | (with_reducible refine below_drewN' ?_ _) | (with_reducible refine ext_alloc ?_ ?_; · (first | omega | (simp only [World.size_alloc, World.size_setCell, World.size_drew, World.heap_drewN]; omega) | (simp; omega))) | (with_reducible refine ext_setCell ?_ ?_; · (first | omega | (simp only [World.size_alloc, World.size_setCell, World.size_drew, World.heap_drewN]; omega) | (simp; omega))) | (refine ext_call (by assumption) ?_ ?_; · (first | omega | (simp only [World.size_alloc, World.size_setCell, World.size_drew, World.heap_drewN]; omega) | (simp; omega)))))); (· rfl); (· rfl); (· rfl); (· rfl))) | (go_at_call 145; refine (HCT.out _).mono ?_; rintro e w' ⟨rfl, hb⟩))
              refine ⟨⟨j + 1, by omega, ?_, ?_, by (repeat (first | exact Below.refl _ _ | assumption | (with_reducible refine Below.drew ?_) | (with_reducible refine below_drewN' ?_ _) | (with_reducible refine ext_alloc ?_ ?_; · (first | omega | (simp only [World.size_alloc, World.size_setCell, World.size_drew, World.heap_drewN]; omega) | (simp; omega))) | (with_reducible refine ext_setCell ?_ ?_; · (first | omega | (simp only [World.size_alloc, World.size_setCell, World.size_drew, World.heap_drewN]; omega) | (simp; omega))) | (refine ext_call (by assumption) ?_ ?_; · (first | omega | (simp only [World.size_alloc, World.size_setCell, World.size_drew, World.heap_drewN]; omega) | (simp; omega)))))⟩, by simp [RowKit.intOf]; omega⟩
              · first | rfl | (congr 1; omega)
              · rw [HS.out]; exact Lib.hid (hM.out.below (by (repeat (first | exact Below.refl _ _ | assumption | (with_reducible refine Below.drew ?_) | (with_reducible refine below_drewN' ?_ _) | (with_reducible refine ext_alloc ?_ ?_; · (first | omega | (simp only [World.size_alloc, World.size_setCell, World.size_drew, World.heap_drewN]; omega) | (simp; omega))) | (with_reducible refine ext_setCell ?_ ?_; · (first | omega | (simp only [World.size_alloc, World.size_setCell, World.size_drew, World.heap_drewN]; omega) | (simp; omega))) | (refine ext_call (by assumption) ?_ ?_; · (first | omega | (simp only [World.size_alloc, World.size_setCell, World.size_drew, World.heap_drewN]; omega) | (simp; omega)))))))
          · rw [hnb] at hct
            simp only [hnb, if_true] at hsn
            have HS := Lib.hid hsn
            have HCT := Lib.hid hct
            clear hu hsn hf hct hnb
            rcases hkk with hk | ⟨hk1, hk2⟩
            · have k1 : (x.tag.kind == 1) = true := by simpa using hk
              have k2 : (x.tag.kind != 1) = false := by simpa using hk
              clear hk
              go_wp2_with (first | (at_lookup; (apply wpl_look_some hM.out keysI Tryz.underlying142 Tryz.zeroValue114 x.tag.page HXP.out HU.out; (· (repeat (first | exact Below.refl _ _ | assumption | (with_reducible refine Below.drew ?_) | (with_reducible refine below_drewN' ?_ _) | (with_reducible refine ext_alloc ?_ ?_; · (first | omega | (simp only [World.size_alloc, World.size_setCell, World.size_drew, World.heap_drewN]; omega) | (simp; omega))) | (with_reducible refine ext_setCell ?_ ?_; · (first | omega | (simp only [World.size_alloc, World.size_setCell, World.size_drew, World.heap_drewN]; omega) | (simp; omega))) | (refine ext_call (by assumption) ?_ ?_; · (first | omega | (simp only [World.size_alloc, World.size_setCell, World.size_drew, World.heap_drewN]; omega) | (simp; omega)))))); (· rfl); (· rfl); (· rfl); (· rfl))) | (at_mapUpdate; (apply wpl_put hM.out keysI Tryz.underlying142 x.tag.page HXP.out x.v; (· (repeat (first | exact Below.refl _ _ | assumption | (with_reducible refine Below.drew ?_) | (with_reducible refine below_drewN' ?_ _) | (with_reducible refine ext_alloc ?_ ?_; · (first | omega | (simp only [World.size_alloc, World.size_setCell, World.size_drew, World.heap_drewN]; omega) | (simp; omega))) | (with_reducible refine ext_setCell ?_ ?_; · (first | omega | (simp only [World.size_alloc, World.size_setCell, World.size_drew, World.heap_drewN]; omega) | (simp; omega))) | (refine ext_call (by assumption) ?_ ?_; · (first | omega | (simp only [World.size_alloc, World.size_setCell, World.size_drew, World.heap_drewN]; omega) | (simp; omega)))))); (· rfl); (· rfl); (· rfl); (· rfl); (· rfl)); intro w5 hM5 ht5 hz5; have HM5 := Lib.hid hM5; clear hM5; (try simp only [World.size_alloc, World.size_setCell, World.size_drew, World.heap_drewN] at hz5)) | (go_at_call 145; refine (HCT.out _).mono ?_; rintro e w' ⟨rfl, hb⟩; have hzb := hb.size; (try simp only [World.size_alloc, World.size_setCell, World.size_drew, World.heap_drewN] at hzb); (try have hz0 : wr.heap.size < w'.heap.size := by omega); (try have hz1 : wr.heap.size + 1 < w'.heap.size := by omega); (try have hz2 : wr.heap.size + 2 < w'.heap.size := by omega); (try have hz3 : wr.heap.size + 3 < w'.heap.size := by omega); obtain ⟨hc, hf⟩ := bcell hb))
              refine ⟨⟨j + 1, by omega, ?_, ?_, ext_turns (by (repeat (first | exact Below.refl _ _ | assumption | (with_reducible refine Below.drew ?_) | (with_reducible refine below_drewN' ?_ _) | (with_reducible refine ext_alloc ?_ ?_; · (first | omega | (simp only [World.size_alloc, World.size_setCell, World.size_drew, World.heap_drewN]; omega) | (simp; omega))) | (with_reducible refine ext_setCell ?_ ?_; · (first | omega | (simp only [World.size_alloc, World.size_setCell, World.size_drew, World.heap_drewN]; omega) | (simp; omega))) | (refine ext_call (by assumption) ?_ ?_; · (first | omega | (simp only [World.size_alloc, World.size_setCell, World.size_drew, World.heap_drewN]; omega) | (simp; omega)))))) (by omega) ht5 (fun k hk => by subst hk; omega)⟩, by simp [RowKit.intOf]; omega⟩
              · first | rfl | (congr 1; omega)
              · have := HM5.out; rw [HS.out]; rw [vals_put]; exact Lib.hid this
            · have k1 : (x.tag.kind == 1) = false := by simpa using hk1
              have k2 : (x.tag.kind != 1) = true := by simpa using hk1
              have k3 : (x.tag.kind == 2) = true := by simpa using hk2
              have k4 : (x.tag.kind != 2) = false := by simpa using hk2
              clear hk1 hk2
              go_wp2_with (first | (at_lookup; (apply wpl_look_some hM.out keysI Tryz.underlying142 Tryz.zeroValue114 x.tag.page HXP.out HU.out; (· (repeat (first | exact Below.refl _ _ | assumption | (with_reducible refine Below.drew ?_) | (with_reducible refine below_drewN' ?_ _) | (with_reducible refine ext_alloc ?_ ?_; · (first | omega | (simp only [World.size_alloc, World.size_setCell, World.size_drew, World.heap_drewN]; omega) | (simp; omega))) | (with_reducible refine ext_setCell ?_ ?_; · (first | omega | (simp only [World.size_alloc, World.size_setCell, World.size_drew, World.heap_drewN]; omega) | (simp; omega))) | (refine ext_call (by assumption) ?_ ?_; · (first | omega | (simp only [World.size_alloc, World.size_setCell, World.size_drew, World.heap_drewN]; omega) | (simp; omega)))))); (· rfl); (· rfl); (· rfl); (· rfl))) | (at_mapUpdate; (apply wpl_put hM.out keysI Tryz.underlying142 x.tag.page HXP.out x.v; (· (repeat (first | exact Below.refl _ _ | assumption | (with_reducible refine Below.drew ?_) | (with_reducible refine below_drewN' ?_ _) | (with_reducible refine ext_alloc ?_ ?_; · (first | omega | (simp only [World.size_alloc, World.size_setCell, World.size_drew, World.heap_drewN]; omega) | (simp; omega))) | (with_reducible refine ext_setCell ?_ ?_; · (first | omega | (simp only [World.size_alloc, World.size_setCell, World.size_drew, World.heap_drewN]; omega) | (simp; omega))) | (refine ext_call (by assumption) ?_ ?_; · (first | omega | (simp only [World.size_alloc, World.size_setCell, World.size_drew, World.heap_drewN]; omega) | (simp; omega)))))); (· rfl); (· rfl); (· rfl); (· rfl); (· rfl)); intro w5 hM5 ht5 hz5; have HM5 := Lib.hid hM5; clear hM5; (try simp only [World.size_alloc, World.size_setCell, World.size_drew, World.heap_drewN] at hz5)) | (go_at_call 145; refine (HCT.out _).mono ?_; rintro e w' ⟨rfl, hb⟩; have hzb := hb.size; (try simp only [World.size_alloc, World.size_setCell, World.size_drew, World.heap_drewN] at hzb); (try have hz0 : wr.heap.size < w'.heap.size := by omega); (try have hz1 : wr.heap.size + 1 < w'.heap.size := by omega); (try have hz2 : wr.heap.size + 2 < w'.heap.size := by omega); (try have hz3 : wr.heap.size + 3 < w'.heap.size := by omega); obtain ⟨hc, hf⟩ := bcell hb))
              refine ⟨⟨j + 1, by omega, ?_, ?_, ext_turns (by (repeat (first | exact Below.refl _ _ | assumption | (with_reducible refine Below.drew ?_) | (with_reducible refine below_drewN' ?_ _) | (with_reducible refine ext_alloc ?_ ?_; · (first | omega | (simp only [World.size_alloc, World.size_setCell, World.size_drew, World.heap_drewN]; omega) | (simp; omega))) | (with_reducible refine ext_setCell ?_ ?_; · (first | omega | (simp only [World.size_alloc, World.size_setCell, World.size_drew, World.heap_drewN]; omega) | (simp; omega))) | (refine ext_call (by assumption) ?_ ?_; · (first | omega | (simp only [World.size_alloc, World.size_setCell, World.size_drew, World.heap_drewN]; omega) | (simp; omega)))))) (by omega) ht5 (fun k hk => by subst hk; omega)⟩, by simp [RowKit.intOf]; omega⟩
              · first | rfl | (congr 1; omega)
              · have := HM5.out; rw [HS.out]; rw [vals_put]; exact Lib.hid this
      · simp only [newestStep, hsk, if_true] at hsn
        have HS := Lib.hid hsn
        clear hsn
        have hkk : (x.tag.kind ≠ 1 ∧ x.tag.kind ≠ 2) ∨ (x.tag.kind = 1 ∧ la < x.tag.epoch) ∨ (x.tag.kind ≠ 1 ∧ x.tag.kind = 2 ∧ la < x.tag.epoch) := by
          simp only [skipB, Bool.or_eq_true, Bool.and_eq_true, Bool.not_eq_true', beq_eq_false_iff_ne, decide_eq_true_eq] at hsk
          omega
        clear hsk
        rcases hkk with ⟨hk1, hk2⟩ | ⟨hk, hep⟩ | ⟨hk1, hk2, hep⟩
        · have k1 : (x.tag.kind == 1) = false := by simpa using hk1
          have k2 : (x.tag.kind != 1) = true := by simpa using hk1
          have k3 : (x.tag.kind == 2) = false := by simpa using hk2
          have k4 : (x.tag.kind != 2) = true := by simpa using hk2
          clear hk1 hk2
          go_wp2
          refine ⟨⟨j + 1, by omega, ?_, ?_, by (repeat (first | exact Below.refl _ _ | assumption | (with_reducible refine Below.drew ?_) | (with_reducible refine below_drewN' ?_ _) | (with_reducible refine ext_alloc ?_ ?_; · (first | omega | (simp only [World.size_alloc, World.size_setCell, World.size_drew, World.heap_drewN]; omega) | (simp; omega))) | (with_reducible refine ext_setCell ?_ ?_; · (first | omega | (simp only [World.size_alloc, World.size_setCell, World.size_drew, World.heap_drewN]; omega) | (simp; omega))) | (refine ext_call (by assumption) ?_ ?_; · (first | omega | (simp only [World.size_alloc, World.size_setCell, World.size_drew, World.heap_drewN]; omega) | (simp; omega)))))⟩, by simp [RowKit.intOf]; omega⟩
          · first | rfl | (congr 1; omega)
          · rw [HS.out]; exact Lib.hid (hM.out.below (by (repeat (first | exact Below.refl _ _ | assumption | (with_reducible refine Below.drew ?_) | (with_reducible refine below_drewN' ?_ _) | (with_reducible refine ext_alloc ?_ ?_; · (first | omega | (simp only [World.size_alloc, World.size_setCell, World.size_drew, World.heap_drewN]; omega) | (simp; omega))) | (with_reducible refine ext_setCell ?_ ?_; · (first | omega | (simp only [World.size_alloc, World.size_setCell, World.size_drew, World.heap_drewN]; omega) | (simp; omega))) | (refine ext_call (by assumption) ?_ ?_; · (first | omega | (simp only [World.size_alloc, World.size_setCell, World.size_drew, World.heap_drewN]; omega) | (simp; omega)))))))
        · have k1 : (x.tag.kind == 1) = true := by simpa using hk
          have k2 : (x.tag.kind != 1) = false := by simpa using hk
          clear hk
          go_wp2
          refine ⟨⟨j + 1, by omega, ?_, ?_, by (repeat (first | exact Below.refl _ _ | assumption | (with_reducible refine Below.drew ?_) | (with_reducible refine below_drewN' ?_ _) | (with_reducible refine ext_alloc ?_ ?_; · (first | omega | (simp only [World.size_alloc, World.size_setCell, World.size_drew, World.heap_drewN]; omega) | (simp; omega))) | (with_reducible refine ext_setCell ?_ ?_; · (first | omega | (simp only [World.size_alloc, World.size_setCell, World.size_drew, World.heap_drewN]; omega) | (simp; omega))) | (refine ext_call (by assumption) ?_ ?_; · (first | omega | (simp only [World.size_alloc, World.size_setCell, World.size_drew, World.heap_drewN]; omega) | (simp; omega)))))⟩, by simp [RowKit.intOf]; omega⟩
          · first | rfl | (congr 1; omega)
          · rw [HS.out]; exact Lib.hid (hM.out.below (by (repeat (first | exact Below.refl _ _ | assumption | (with_reducible refine Below.drew ?_) | (with_reducible refine below_drewN' ?_ _) | (with_reducible refine ext_alloc ?_ ?_; · (first | omega | (simp only [World.size_alloc, World.size_setCell, World.size_drew, World.heap_drewN]; omega) | (simp; omega))) | (with_reducible refine ext_setCell ?_ ?_; · (first | omega | (simp only [World.size_alloc, World.size_setCell, World.size_drew, World.heap_drewN]; omega) | (simp; omega))) | (refine ext_call (by assumption) ?_ ?_; · (first | omega | (simp only [World.size_alloc, World.size_setCell, World.size_drew, World.heap_drewN]; omega) | (simp; omega)))))))
        · have k1 : (x.tag.kind == 1) = false := by simpa using hk1
          have k2 : (x.tag.kind != 1) = true := by simpa using hk1
          have k3 : (x.tag.kind == 2) = true := by simpa using hk2
          have k4 : (x.tag.kind != 2) = false := by simpa using hk2
          clear hk1 hk2
          go_wp2
          refine ⟨⟨j + 1, by omega, ?_, ?_, by (repeat (first | exact Below.refl _ _ | assumption | (with_reducible refine Below.drew ?_) | (with_reducible refine below_drewN' ?_ _) | (with_reducible refine ext_alloc ?_ ?_; · (first | omega | (simp only [World.size_alloc, World.size_setCell, World.size_drew, World.heap_drewN]; omega) | (simp; omega))) | (with_reducible refine ext_setCell ?_ ?_; · (first | omega | (simp only [World.size_alloc, World.size_setCell, World.size_drew, World.heap_drewN]; omega) | (simp; omega))) | (refine ext_call (by assumption) ?_ ?_; · (first | omega | (simp only [World.size_alloc, World.size_setCell, World.size_drew, World.heap_drewN]; omega) | (simp; omega)))))⟩, by simp [RowKit.intOf]; omega⟩
          · first | rfl | (congr 1; omega)
          · rw [HS.out]; exact Lib.hid (hM.out.below (by (repeat (first | exact Below.refl _ _ | assumption | (with_reducible refine Below.drew ?_) | (with_reducible refine below_drewN' ?_ _) | (with_reducible refine ext_alloc ?_ ?_; · (first | omega | (simp only [World.size_alloc, World.size_setCell, World.size_drew, World.heap_drewN]; omega) | (simp; omega))) | (with_reducible refine ext_setCell ?_ ?_; · (first | omega | (simp only [World.size_alloc, World.size_setCell, World.size_drew, World.heap_drewN]; omega) | (simp; omega))) | (refine ext_call (by assumption) ?_ ?_; · (first | omega | (simp only [World.size_alloc, World.size_setCell, World.size_drew, World.heap_drewN]; omega) | (simp; omega)))))))
    · have e : j = l.length := by omega
      subst e
      have e2 : l.take l.length = l := List.take_length
      have HE := Lib.hid e2
      clear e2
      go_wp2
      go_ret
      refine ⟨⟨_, rfl, by omega, ?_⟩, by (repeat (first | exact Below.refl _ _ | assumption | (with_reducible refine Below.drew ?_) | (with_reducible refine below_drewN' ?_ _) | (with_reducible refine ext_alloc ?_ ?_; · (first | omega | (simp only [World.size_alloc, World.size_setCell, World.size_drew, World.heap_drewN]; omega) | (simp; omega))) | (with_reducible refine ext_setCell ?_ ?_; · (first | omega | (simp only [World.size_alloc, World.size_setCell, World.size_drew, World.heap_drewN]; omega) | (simp; omega))) | (refine ext_call (by assumption) ?_ ?_; · (first | omega | (simp only [World.size_alloc, World.size_setCell, World.size_drew, World.heap_drewN]; omega) | (simp; omega)))))⟩
      have := hM.out
      rw [HE.out] at this; exact this
end Go.Proofs.YthghhcnpbehaiaaGreat
