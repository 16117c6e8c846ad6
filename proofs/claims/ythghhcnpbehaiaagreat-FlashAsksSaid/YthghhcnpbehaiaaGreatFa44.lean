/- Slices that are lent, and written over. -/
import Derived.Test.YthghhcnpbehaiaaGreatFa43
import Derived.Deep.Upon

namespace Go.Proofs.YthghhcnpbehaiaaGreat
open Go.RowKit

def LentAt (w : World) (B : Nat) (l : List Int) (n : Nat) : Prop := w.heap[B]? = some (.cells (l.map u8 ++ List.replicate 3 (u8 119)).toArray 5 (0, 0)) ∧ l.length = n

theorem append_lent (l : List Int) (n : Nat) (hl : l.length = n) (hn : n ≤ 200) (B : Nat) (A : Option Addr) (cap : Nat) (w : World) (hv : SlAt w (.slice A n cap) n (l.map u8)) (hB : w.heap[B]? = some (.cells (List.replicate (n + 3) (u8 0)).toArray 5 (0, 0))) :
    ∃ w', (Builtin.append_ #[37, 37] 37 #[.slice (some ⟨B, 0, none⟩) 0 (n + 3), .slice A n cap]).run Tryz.prog w = .ok (.slice (some ⟨B, 0, none⟩) n (n + 3)) w' ∧ w'.heap[B]? = some (.cells (l.map u8 ++ List.replicate 3 (u8 0)).toArray 5 (0, 0)) ∧ Turns (· = B) w w' := by
  subst hl
  obtain ⟨i0, hi, hz0, hz1, hz2⟩ := info_parts info5
  obtain ⟨a0, c0, hv0, -, hr⟩ := hv
  simp only [Value.slice.injEq] at hv0
  obtain ⟨rfl, -, rfl⟩ := hv0
  by_cases hne : l = []
  · subst hne
    refine ⟨w, ?_, ?_, Turns.refl _ _⟩
    · cases A with
      | none => exact run_append_nothing w 37 37 37 5 i0 Tryz.underlying37 hi _ 0 _ (Nat.zero_le _) _ (Src.ofNil w Tryz.underlying37 cap)
      | some a => exact run_append_nothing w 37 37 37 5 i0 Tryz.underlying37 hi _ 0 _ (Nat.zero_le _) _ (Src.ofSlice w Tryz.underlying37 a 0 cap [] (by simp) (fun j u hj => by simp at hj) (fun u hu => by cases hu))
    · simpa using hB
  · rcases hr with hr | ⟨b, off, rfl, hr⟩
    · exact absurd (List.map_eq_nil_iff.1 hr) hne
    · have hfit : 0 * i0.size + (l.map u8).length ≤ (List.replicate (l.length + 3) (u8 0)).toArray.size := by simp
      have := run_append_room (P := Tryz.prog) w 37 37 5 i0 Tryz.underlying37 hi B 0 (l.length + 3) _ hB ⟨b, off, none⟩ l.length cap (l.map u8) (by rw [hz1]; simp) (fun j u hj => by rw [add_addr]; exact hr.cell j hj) (fun u hu => by obtain ⟨x, -, rfl⟩ := List.mem_map.1 hu; rfl) (by omega) hfit
      rw [Nat.zero_add] at this
      refine ⟨_, this, ?_, Turns.setRow (M := (· = B)) (Turns.refl _ _) (.inl rfl) _⟩
      rw [setRow_heap w B _ _ _ _ hB]
      have e : (List.replicate (l.length + 3) (u8 0)).toArray.toList.take (0 * i0.size) ++ l.map u8 ++ (List.replicate (l.length + 3) (u8 0)).toArray.toList.drop (0 * i0.size + (l.map u8).length) = l.map u8 ++ List.replicate 3 (u8 0) := by
        rw [Nat.zero_mul, List.take_zero, List.nil_append, Nat.zero_add, List.length_map, List.drop_replicate, Nat.add_sub_cancel_left]
      rw [e]

theorem wpList_append_eq {ops : Array Oper} {rest : List Oper} {o : Oper} {a : Act} {Q : Exit → Act → World → Prop} (hgd : o.guard = none) (s x : Operand) (t : TypeId)
    (ho : o.op = .call { callee := .builtin .append, args := #[s, x], argTypes := #[t, t] }) {w w' : World} (v u r : Value) (hs : a.eval s = v) (hx : a.eval x = u)
    (hr : (Builtin.append_ #[t, t] o.type #[v, u]).run Tryz.prog w = .ok r w') (h : wpList Tryz.prog ops Q rest (a.put o.dst r) w') : wpList Tryz.prog ops Q (o :: rest) a w := by
  refine wpList_plain hgd fun K hK => ?_
  unfold Oper.wp execOp
  simp only [ho, resolve, invoke, builtin, Sem.run_bind, Sem.run_pure, Result.andThen_ok, List.map_toArray, List.map_cons, List.map_nil, hs, hx, hr]
  exact hK _ _ h

theorem make37' (n : Nat) (hn : n ≤ 1000) (w : World) : (Instr.makeSlice 37 (i64 0) (i64 n)).run Tryz.prog w = .ok (.slice (some ⟨w.heap.size, 0, none⟩) 0 n) (w.alloc (.cells (Array.replicate n (u8 0)) 5)) := by
  obtain ⟨i0, hi, hz0, hz1, hz2⟩ := info_parts info5
  have := run_make (P := Tryz.prog) w 37 5 i0 (.int .u8 0) Tryz.underlying37 hi hz0 .i64 .i64 0 n (by omega) (by omega) (by rw [hz2]; omega) (by omega)
  rw [hz1, Int.toNat_natCast, made_u8] at this
  exact this

def lent3 (l : List Int) (j : Nat) : List Value := l.map u8 ++ List.replicate j (u8 119) ++ List.replicate (3 - j) (u8 0)
theorem lent3_set (l : List Int) (j : Nat) (h : j < 3) : (lent3 l j).set (l.length + j) (u8 119) = lent3 l (j + 1) := by
  rcases j with _ | _ | _ | j
  · simp [lent3, List.set_append]
  · simp [lent3, List.set_append]
  · simp [lent3, List.set_append]
  · omega
theorem lent3_get (l : List Int) (j : Nat) (h : j < 3) : (lent3 l j)[l.length + j]? = some (u8 0) := by
  rcases j with _ | _ | _ | j
  · simp [lent3]
  · simp [lent3]
  · simp [lent3]
  · omega

set_option maxHeartbeats 2000000 in
set_option maxRecDepth 100000 in
theorem lend39 (l : List Int) (n : Nat) (hl : l.length = n) (hn : n ≤ 200) (A : Option Addr) (cap : Nat) (w : World) (hv : SlAt w (.slice A n cap) n (l.map u8)) :
    Calls Tryz.prog 39 #[.slice A n cap] w fun e w' => e = .returned (.slice (some ⟨w.heap.size, 0, none⟩) n (n + 3)) ∧ LentAt w' w.heap.size l n ∧ Below w.heap.size w w' := by
  have hmk := make37' (n + 3) (by omega) w
  have n0 : (0 : Int) ≤ (n : Int) := by omega
  rw [Int.natCast_add, show ((3 : Nat) : Int) = 3 from rfl] at hmk
  have HV := Lib.hid hv
  clear hv
  go_enter Tryz.func39, Tryz.ntmps39
  go_wp2_with (at_builtin; refine stopT ?_)
  unfold Go.RowKit.Hid
  have hv1 : SlAt (w.alloc (.cells (Array.replicate (n + 3) (u8 0)) 5)) (.slice A n cap) n (l.map u8) := HV.out.below (by (repeat (first | exact Below.refl _ _ | assumption | (with_reducible refine Below.drew ?_) | (with_reducible refine below_drewN' ?_ _) | (with_reducible refine ext_alloc ?_ ?_; · (first | omega | (simp only [World.size_alloc, World.size_setCell, World.size_drew, World.heap_drewN]; omega) | (simp; omega))) | (with_reducible refine ext_setCell ?_ ?_; · (first | omega | (simp only [World.size_alloc, World.size_setCell, World.size_drew, World.heap_drewN]; omega) | (simp; omega))) | (refine ext_call (by assumption) ?_ ?_; · (first | omega | (simp only [World.size_alloc, World.size_setCell, World.size_drew, World.heap_drewN]; omega) | (simp; omega))))))
  have hh1 : (w.alloc (.cells (Array.replicate (n + 3) (u8 0)) 5)).heap[w.heap.size]? = some (.cells (List.replicate (n + 3) (u8 0)).toArray 5 (0, 0)) := by
    rw [heap_new]; simp
  obtain ⟨w1, hr, hh, ht⟩ := append_lent l n hl hn w.heap.size A cap _ hv1 hh1
  have hb1 : Below w.heap.size w w1 := ext_turns ((Below.refl _ _).alloc (Nat.le_refl _) _) (by simp) ht (fun k hk => by show w.heap.size ≤ k; rw [hk]; exact Nat.le_refl _)
  have hz1 := hb1.size
  have hlt : w.heap.size < w1.heap.size := heap_lt hh
  refine wpList_append_eq rfl (.tmp 10) (.tmp 11) 37 rfl (.slice (some ⟨w.heap.size, 0, none⟩) 0 (n + 3)) (.slice A n cap) (.slice (some ⟨w.heap.size, 0, none⟩) n (n + 3)) (w' := w1) rfl rfl ?hr ?_
  case hr => exact hr
  have HH := Lib.hid hh
  clear hr hh ht hh1 hv1 HV
  go_wp2_with fail
  go_loopw [5] (fun i wr => ∃ j : Nat, j ≤ 3 ∧ i = .int .i64 j ∧ Below w.heap.size w wr ∧ Hid (wr.heap[w.heap.size]? = some (.cells (lent3 l j).toArray 5 (0, 0)))) (fun i _ => 3 - (RowKit.intOf i).toNat)
  case atStart => exact ⟨0, by omega, rfl, hb1, by simpa [lent3] using HH⟩
  case round =>
    obtain ⟨j, hj, rfl, hbr, HHE⟩ := hrel
    have j0 : (0 : Int) ≤ (j : Int) := by omega
    have hkw : IntKind.i64.wrap ((j : Int) + 1) = ((j + 1 : Nat) : Int) := by rw [IntWalk.i64_in _ (by omega)]; omega
    by_cases hlt : j < 3
    · have hr := row_of_heap HHE.out
      have hx := lent3_get l j hlt
      rw [hl] at hx
      have d1 : wr.cell? ⟨w.heap.size, n + j, none⟩ = some (u8 0) := hr.cell0 (n + j) hx
      have u1 : wr.frozen? ⟨w.heap.size, n + j, none⟩ = false := hr.free0 (n + j) hx
      have hlw := World.block_lt_of_cell? _ _ d1
      have ijn : (j : Int) < 3 := by omega
      have hst := lent3_set l j hlt
      rw [hl] at hst
      have HSTT := Lib.hid hst
      clear hr hx hst
      go_wp2_with fail
      refine ⟨⟨j + 1, by omega, ?_, ?_, ?_⟩, by simp [RowKit.intOf]; omega⟩
      · first | rfl | (congr 1; done) | (congr 1; omega)
      · exact hbr.setCell (Nat.le_refl _) _
      · have e := heap_setCell HHE.out (n + j) (u8 119)
        rw [List.setIfInBounds_toArray, HSTT.out] at e
        exact Lib.hid e
    · have e : j = 3 := by omega
      subst e
      go_wp2_with fail
      go_ret
      refine ⟨rfl, ⟨?_, hl⟩, hbr⟩
      have := HHE.out
      simpa [lent3] using this

set_option maxHeartbeats 2000000 in
set_option maxRecDepth 100000 in
theorem kept40 (l d : List Int) (n m : Nat) (hm : d.length = m) (hn : n ≤ 200) (B : Nat) (A : Option Addr) (cap : Nat) (w : World) (hL : LentAt w B l n) (hv : SlAt w (.slice A m cap) m (d.map u8)) :
    Calls Tryz.prog 40 #[.slice (some ⟨B, 0, none⟩) n (n + 3), .slice A m cap] w fun e w' => e = .returned (.bool (decide (l = d))) ∧ Below w.heap.size w w' := by
  have hsb := fun W (hW : Below w.heap.size w W) (hv1 : SlAt W (.slice (some ⟨B, 0, none⟩) n (n + 3)) n (l.map u8)) => sameBytes34 l d n m hL.2 hm (by omega) (some ⟨B, 0, none⟩) A (n + 3) cap W hv1 (hv.below hW)
  have HSB := Lib.hid hsb
  clear hsb hv
  obtain ⟨hh, hl⟩ := hL
  have n0 : (0 : Int) ≤ (n : Int) := by omega
  have HH := Lib.hid hh
  clear hh
  go_enter Tryz.func40, Tryz.ntmps40
  go_wp2_with fail
  go_loopw [6] (fun i wr => ∃ j : Nat, j ≤ 3 ∧ i = .int .i64 j ∧ Below w.heap.size w wr) (fun i _ => 3 - (RowKit.intOf i).toNat)
  case atStart => exact ⟨0, by omega, rfl, by (repeat (first | exact Below.refl _ _ | assumption | (with_reducible refine Below.drew ?_) | (with_reducible refine below_drewN' ?_ _) | (with_reducible refine ext_alloc ?_ ?_; · (first | omega | (simp only [World.size_alloc, World.size_setCell, World.size_drew, World.heap_drewN]; omega) | (simp; omega))) | (with_reducible refine ext_setCell ?_ ?_; · (first | omega | (simp only [World.size_alloc, World.size_setCell, World.size_drew, World.heap_drewN]; omega) | (simp; omega))) | (refine ext_call (by assumption) ?_ ?_; · (first | omega | (simp only [World.size_alloc, World.size_setCell, World.size_drew, World.heap_drewN]; omega) | (simp; omega)))))⟩
  case round =>
    obtain ⟨j, hj, rfl, hbr⟩ := hrel
    have j0 : (0 : Int) ≤ (j : Int) := by omega
    have hkw : IntKind.i64.wrap ((j : Int) + 1) = ((j + 1 : Nat) : Int) := by rw [IntWalk.i64_in _ (by omega)]; omega
    have hr := (row_of_heap HH.out).below hbr
    by_cases hlt : j < 3
    · have hx : (l.map u8 ++ List.replicate 3 (u8 119))[n + j]? = some (u8 119) := by
        rw [List.getElem?_append_right (by simp; omega)]
        rw [List.getElem?_replicate, if_pos (by simp; omega)]
      have d1 : wr.cell? ⟨B, n + j, none⟩ = some (u8 119) := hr.cell0 (n + j) hx
      have hlw := World.block_lt_of_cell? _ _ d1
      have ijn : (j : Int) < 3 := by omega
      clear hr hx
      go_wp2_with fail
      refine ⟨⟨j + 1, by omega, ?_, ?_⟩, by simp [RowKit.intOf]; omega⟩
      · first | rfl | (congr 1; done) | (congr 1; omega)
      · exact hbr
    · have e : j = 3 := by omega
      subst e
      have hv1 : SlAt wr (.slice (some ⟨B, 0, none⟩) n (n + 3)) n (l.map u8) := ⟨_, _, rfl, by omega, .inr ⟨B, 0, rfl, hr.pre fun i v hi => by
        rw [List.getElem?_append_left (by have := (List.getElem?_eq_some_iff.1 hi).1; exact this)]; exact hi⟩⟩
      have HS2 := HSB.out wr hbr hv1
      have HS3 := Lib.hid HS2
      clear hr hv1 HS2 HSB
      go_wp2_with fail
      refine HS3.out.mono ?_
      rintro e w2 ⟨rfl, hb2⟩
      have hb3 : Below w.heap.size w w2 := ext_call hb2 hbr.size hbr
      go_wp2_with fail
      go_ret
      exact ⟨rfl, hb3⟩

def OwnBytes (w : World) (B n cap : Nat) : Prop := ∃ arr : List Value, w.heap[B]? = some (.cells arr.toArray 5 (0, 0)) ∧ arr.length = cap ∧ n ≤ cap ∧ cap ≤ maxLen

set_option maxHeartbeats 2000000 in
set_option maxRecDepth 100000 in
theorem over41 (B n cap : Nat) (hn : n ≤ 100000) (w : World) (hO : OwnBytes w B n cap) :
    Calls Tryz.prog 41 #[.slice (some ⟨B, 0, none⟩) n cap] w fun e w' => e = .returned (.tuple #[]) ∧ Turns (· = B) w w' := by
  obtain ⟨arr, hh, hc, hnc, hcm⟩ := hO
  obtain ⟨i0, hi, hz0, hz1, hz2⟩ := info_parts info5
  have hB : B < w.heap.size := heap_lt hh
  have n0 : (0 : Int) ≤ (n : Int) := by omega
  go_enter Tryz.func41, Tryz.ntmps41
  go_wp2_with fail
  go_loopw [2] (fun i wr => ∃ (j : Nat) (ar : List Value), j ≤ n ∧ i = .int .i64 j ∧ Hid (wr.heap[B]? = some (.cells ar.toArray 5 (0, 0))) ∧ ar.length = cap ∧ Turns (· = B) w wr) (fun i _ => n - (RowKit.intOf i).toNat)
  case atStart => exact ⟨0, arr, Nat.zero_le _, rfl, hh, hc, Turns.refl _ _⟩
  case round =>
    obtain ⟨j, ar, hj, rfl, HA, har, hT⟩ := hrel
    have j0 : (0 : Int) ≤ (j : Int) := by omega
    have hkw : IntKind.i64.wrap ((j : Int) + 1) = ((j + 1 : Nat) : Int) := by rw [IntWalk.i64_in _ (by omega)]; omega
    by_cases hlt : j < n
    · obtain ⟨x, hx⟩ : ∃ x, ar[j]? = some x := ⟨_, List.getElem?_eq_getElem (by omega)⟩
      have hr := row_of_heap HA.out
      have d1 : wr.cell? ⟨B, j, none⟩ = some x := hr.cell0 j hx
      have u1 : wr.frozen? ⟨B, j, none⟩ = false := hr.free0 j hx
      have hlw := World.block_lt_of_cell? _ _ d1
      have ijn : (j : Int) < (n : Int) := by omega
      clear hr hx
      go_wp2_with fail
      refine ⟨⟨j + 1, ar.set j (.int .u8 238), by omega, ?_, ?_, by simp [har], hT.setCell (.inl rfl) _⟩, by simp [RowKit.intOf]; omega⟩
      · first | rfl | (congr 1; done) | (congr 1; omega)
      · have e := heap_setCell HA.out j (.int .u8 238)
        rw [List.setIfInBounds_toArray] at e
        exact Lib.hid e
    · have e : j = n := by omega
      subst e
      have hown : wr.ownsRow B 5 1 (.slice (some ⟨B, 0, none⟩) j cap) j (ar.take j) :=
        ⟨by simp; omega, .inr ⟨B, cap, _, rfl, Nat.le_refl _, HA.out, hnc, hcm, by simp [har], by simp⟩⟩
      have HO := Lib.hid hown
      have hBr : B < wr.heap.size := heap_lt HA.out
      clear hown
      go_wp2_with (at_builtin; refine stopT ?_)
      unfold Go.RowKit.Hid
      refine wpList_append_own _ rfl _ _ 37 rfl B 5 i0 (.int .u8 0) 1 1 Tryz.underlying37 hi hz0 hz1 hz2 rfl (by decide) _ _ _ rfl (HO.out.alloc _) ⟨wr.heap.size, 0, none⟩ 1 1 [.int .u8 238] rfl rfl ?c3 ?c4 (by unfold maxLen; omega) (by omega) (by simp; omega) ?_
      case c3 =>
        intro j u hj
        cases j with
        | zero => cases hj; simp [Addr.add]
        | succ j => simp at hj
      case c4 => intro u hu; simp at hu; subst hu; rfl
      intro v2 w3 hown2 hg2 hnil
      clear hnil hown2
      have hT3 : Turns (· = B) w w3 := by
        have h1 : Turns (· = B) (wr.alloc (.cells #[.int .u8 238] 5)) w3 := ⟨hg2.os, hg2.tape, hg2.output, hg2.size, fun k hk hm => hg2.block k hk (fun e => hm (Option.some.inj (show some k = some B from e)))⟩
        exact (hT.alloc _).trans h1
      go_wp2_with fail
      go_end0
      exact ⟨rfl, hT3⟩

set_option maxHeartbeats 2000000 in
set_option maxRecDepth 100000 in
theorem over41_nil (w : World) : Calls Tryz.prog 41 #[.slice none 0 0] w fun e w' => e = .returned (.tuple #[]) ∧ Below w.heap.size w w' := by
  obtain ⟨i0, hi, hz0, hz1, hz2⟩ := info_parts info5
  have HO := Lib.hid (World.ownsRow_nil w w.heap.size 5 1)
  go_enter Tryz.func41, Tryz.ntmps41
  go_wp2_with fail
  go_loopw [2] (fun i wr => i = .int .i64 0 ∧ wr = w) (fun i _ => 0)
  case atStart => exact ⟨rfl, rfl⟩
  case round =>
    obtain ⟨rfl, rfl⟩ := hrel
    go_wp2_with (at_builtin; refine stopT ?_)
    unfold Go.RowKit.Hid
    refine wpList_append_own _ rfl _ _ 37 rfl wr.heap.size 5 i0 (.int .u8 0) 1 1 Tryz.underlying37 hi hz0 hz1 hz2 rfl (by decide) _ _ _ rfl (HO.out.alloc _) ⟨wr.heap.size, 0, none⟩ 1 1 [.int .u8 238] rfl rfl ?c3 ?c4 (by unfold maxLen; omega) (by omega) (by simp) ?_
    case c3 =>
      intro j u hj
      cases j with
      | zero => cases hj; simp [Addr.add]
      | succ j => simp at hj
    case c4 => intro u hu; simp at hu; subst hu; rfl
    intro v2 w3 hown2 hg2 hnil
    clear hnil hown2
    have hb3 : Below wr.heap.size wr w3 := ((Below.refl _ _).alloc (Nat.le_refl _) _).trans (grown_below hg2 (by simp) (fun g hg => by cases hg))
    go_wp2_with fail
    go_end0
    exact ⟨rfl, hb3⟩
end Go.Proofs.YthghhcnpbehaiaaGreat
