/- rank: All; the keys of a map, sorted. -/
import Derived.Test.YthghhcnpbehaiaaGreatFa16
import Derived.Test.YthghhcnpbehaiaaGreatFa18

namespace Go.Proofs.YthghhcnpbehaiaaGreat
open Go.RowKit

def trivR (H : Type) : Value → Option (DataW H × List MemPlace) := fun _ => some (.nil, [])
theorem owns_of_map {α : Type} {P : Program} {k : TypeId} {mk : α → Value} {ok : α → Prop} {w : World} {b : Nat} {l : List (α × Value)} (h : MapAt w mk b l) (K : Keys P k mk ok) (hok : ∀ p ∈ l, ok p.1) (hl : l.length ≤ 100000) :
    ∃ es clock, w.heap[b]? = some (.map es clock) ∧ (es.toList.map kv).Perm (l.map fun p => (mk p.1, p.2)) ∧ w.ownsMap P k (trivR Unit) b l.length (.map ((es.toList.map (WideElems.rg P k (trivR Unit))).foldr DataW.insert [])) := by
  obtain ⟨es, clock, h1, h2, h3, h4, h5⟩ := h
  have hsz : es.size = l.length := by have := h2.length_eq; simpa using this
  refine ⟨es, clock, h1, h2, es, clock, h1, ⟨by unfold maxLen; omega, ⟨h3, h4, ?_⟩, fun x hx => ?_⟩, by omega, rfl⟩
  · have e1 : es.toList.map (·.key) = (es.toList.map kv).map (·.1) := by rw [List.map_map]; rfl
    rw [e1, (h2.map (·.1)).nodup_iff, List.map_map]
    have e2 : ((fun x : Value × Value => x.1) ∘ fun p : α × Value => (mk p.1, p.2)) = mk ∘ (·.1) := rfl
    rw [e2, ← List.map_map]
    exact List.pairwise_map.2 (h5.imp (fun hne he => hne (K.inj _ _ he)))
  · have : kv x ∈ l.map fun p => (mk p.1, p.2) := h2.mem_iff.1 (List.mem_map.2 ⟨x, hx, rfl⟩)
    obtain ⟨p, hp, e⟩ := List.mem_map.1 this
    simp only [kv, Prod.mk.injEq] at e
    obtain ⟨kl, hk⟩ := K.key p.1 (hok p hp)
    exact ⟨(kl, .nil), by simp [WideElems.rd, ← e.1, hk, trivR]⟩

def vOf : Value → Int
  | .int _ n => n
  | _ => 0
theorem keysOf_perm {w : World} {b : Nat} {l : List (Int × Value)} {es : Array MapEntry} (h2 : (es.toList.map kv).Perm (l.map fun p => (i64 p.1, p.2))) (hok : ∀ p ∈ l, ok64 p.1) :
    (Go.intKeys (DataW.map (H := Unit) ((es.toList.map (WideElems.rg Tryz.prog 3 (trivR Unit))).foldr DataW.insert []))).Perm (l.map (·.1)) := by
  have h3 : (es.toList.map (WideElems.rg Tryz.prog 3 (trivR Unit))).map (fun p => Go.intOf p.1) = (es.toList.map kv).map fun q => vOf q.1 := by
    rw [List.map_map, List.map_map]
    apply List.map_congr_left
    intro x hx
    have : kv x ∈ l.map fun p => (i64 p.1, p.2) := h2.mem_iff.1 (List.mem_map.2 ⟨x, hx, rfl⟩)
    obtain ⟨p, hp, e⟩ := List.mem_map.1 this
    simp only [kv, Prod.mk.injEq] at e
    have hk := Go.Maps.keyOf_int_mk Tryz.underlying3 (wf64 (hok p hp))
    simp [WideElems.rg, WideElems.rd, kv, ← e.1, hk, trivR, Go.intOf, vOf]
  have h4 : ((es.toList.map kv).map fun q => vOf q.1).Perm (l.map (·.1)) := by
    have := h2.map (fun q => vOf q.1)
    rw [List.map_map (l := l)] at this
    exact this
  rw [← h3] at h4
  refine List.Perm.trans ?_ h4
  exact (WideShapes.sorted_perm _).map _

open Go.RowKit Go.Maps in
theorem Tryz.sortsF (m : Nat) : AnyZI.SortsIn Tryz.prog Tryz.sortedF_ren Fence.wide m :=
  ⟨fun blk off cap ss W hH hblk hsz => callsIn_wide.2 (AnyM.slices_Sort_int Tryz.sortI blk off cap ss W hH hblk hsz),
   fun p cap W => callsIn_wide.2 (AnyM.slices_Sort_int_none Tryz.sortI p cap W)⟩

theorem keys107 (b : Nat) (w : World) : Calls Tryz.prog 107 #[.map (some b)] w fun e w' => e = .returned (.func (.func 148) #[] #[ptr w.heap.size]) ∧ w' = w.alloc (.cells #[.map (some b)] 142) := by
  have h := AnyZI.keys_in Tryz.keysF Fence.wide 5 trivial rfl (some b) w
  change CallsIn Fence.wide 5 Tryz.prog 107 _ _ _ at h
  exact callsIn_wide.1 h

/-- slices.Sorted of a map's keys. -/
theorem sorted106 (b q : Nat) (l : List (Int × Value)) (w : World) (h : MapAt w i64 b l) (hok : ∀ p ∈ l, ok64 p.1) (hl : l.length ≤ 100000) (hq : w.cell? ⟨q, 0, none⟩ = some (.map (some b))) :
    Calls Tryz.prog 106 #[.func (.func 148) #[] #[ptr q]] w fun e w' => (∃ (v : Value) (ss : List Int), e = .returned v ∧ ss.Perm (l.map (·.1)) ∧ ss.Pairwise (· ≤ ·) ∧ w'.ownsRow w.heap.size 3 1 v ss.length (ss.map i64)) ∧ Below w.heap.size w w' := by
  obtain ⟨es, clock, h1, h2, hown⟩ := owns_of_map (P := Tryz.prog) h keysI hok hl
  have hkp := keysOf_perm (w := w) (b := b) h2 hok
  have hes : es.size = l.length := by have := h2.length_eq; simpa using this
  generalize hD : (DataW.map (H := Unit) ((es.toList.map (WideElems.rg Tryz.prog 3 (trivR Unit))).foldr DataW.insert [])) = D0 at hown hkp
  have hsz : Maps.size D0 = l.length := by
    have := hkp.length_eq
    rw [← hD] at this ⊢
    simpa [Go.intKeys, Maps.size] using this
  have hseq : SeqGives Fence.wide 2 Tryz.prog 148 #[.pointer (some ⟨q, 0, none⟩)] encZ (fun ss => ss.Perm (Go.intKeys D0)) (Maps.size D0) w :=
    AnyZI.keys_gives (ρ := Tryz.keysF_ren) { Tryz.keysF with } Fence.wide _ trivial rfl (by omega) q b l.length D0 _ (World.block_lt_of_cell? _ _ hq) hq hown
  have cS := AnyZI.sorted_in Tryz.sortedF Fence.wide 5 trivial trivial trivial trivial rfl (by omega) (Tryz.sortsF _) (enters_of Tryz.func147 (by kernel_rfl) rfl) 148 #[.pointer (some ⟨q, 0, none⟩)] trivial (enters_of Tryz.func148 (by kernel_rfl) rfl) _ _ (by unfold maxLen; omega) (by omega) _ hseq
  change CallsIn _ _ Tryz.prog 106 _ _ _ at cS
  refine (callsIn_wide.1 cS).mono ?_
  rintro e w' ⟨v, ss, rfl, hS, hrow, hnil, hb⟩
  refine ⟨⟨v, ss.mergeSort Go.leI, rfl, ((List.mergeSort_perm ss Go.leI).trans hS).trans hkp, ?_, ?_⟩, hb⟩
  · have h1 := List.pairwise_mergeSort (le := Go.leI) (fun a b c h1 h2 => by simp only [Go.leI, decide_eq_true_eq] at *; omega) (fun a b => by simp only [Go.leI, Bool.or_eq_true, decide_eq_true_eq]; omega) ss
    exact h1.imp (fun h => by simpa [Go.leI] using h)
  · rw [List.length_mergeSort]; exact hrow
end Go.Proofs.YthghhcnpbehaiaaGreat

/- rank: All. -/
namespace Go.Proofs.YthghhcnpbehaiaaGreat
open Go.RowKit

def pickOf (f : Int → Option PT) (n : Int) : Option PT := (f n).bind fun x => if x.tag.kind = 1 then some x else none

theorem newestFrom_dom (la : Int) : ∀ (l : List PT) (f : Int → Option PT) (n : Int) (x : PT), l.foldl (newestStep la) f n = some x → f n = some x ∨ (x ∈ l ∧ x.tag.page = n)
  | [], f, n, x, h => .inl h
  | y :: l, f, n, x, h => by
    rcases newestFrom_dom la l _ n x h with h | ⟨h1, h2⟩
    · simp only [newestStep] at h
      have key : ∀ z : Int → Option PT, z = fput f y.tag.page (some y) → z n = some x → f n = some x ∨ (x ∈ y :: l ∧ x.tag.page = n) := fun z hz hx => by
        subst hz
        by_cases e : n = y.tag.page
        · subst e; rw [fput_self] at hx; cases hx; exact .inr ⟨List.mem_cons_self, rfl⟩
        · rw [fput_ne _ e] at hx; exact .inl hx
      by_cases hs : skipB la y.tag = true
      · rw [if_pos hs] at h; exact .inl h
      · rw [if_neg hs] at h
        cases hf : f y.tag.page with
        | none => rw [hf] at h; exact key _ rfl h
        | some z =>
          rw [hf] at h
          simp only at h
          by_cases hn : newerB y.tag z.tag = true
          · rw [if_pos hn] at h; exact key _ rfl h
          · rw [if_neg hn] at h; exact .inl h
    · exact .inr ⟨List.mem_cons_of_mem _ h1, h2⟩
theorem newest_dom {l : List PT} {n : Int} {x : PT} (h : newestOf l n = some x) : x ∈ l ∧ x.tag.page = n := by
  rcases newestFrom_dom _ l _ n x h with h | h
  · cases h
  · exact h

theorem nodup_len {α : Type} : ∀ {l l' : List α}, l.Nodup → (∀ x ∈ l, x ∈ l') → l.length ≤ l'.length
  | [], l', _, _ => Nat.zero_le _
  | x :: l, l', h, hs => by
    obtain ⟨h1, h2⟩ := List.nodup_cons.1 h
    obtain ⟨A, B, rfl⟩ := List.append_of_mem (hs x List.mem_cons_self)
    have := nodup_len (l' := A ++ B) h2 fun y hy => by
      have h3 := hs y (List.mem_cons_of_mem _ hy)
      rcases List.mem_append.1 h3 with h3 | h3
      · exact List.mem_append_left _ h3
      · rcases List.mem_cons.1 h3 with rfl | h3
        · exact absurd hy h1
        · exact List.mem_append_right _ h3
    simp at this ⊢; omega

theorem look_keys (l : List (Int × Value)) (n : Int) : n ∈ l.map (·.1) ↔ (look l n).isSome := by
  rw [look, Option.isSome_map, List.find?_isSome]
  simp only [List.mem_map, decide_eq_true_eq]

theorem filterMap_snoc {f : Int → Option PT} {ks : List Int} {j : Nat} {k : Int} (h : ks[j]? = some k) : (ks.take (j + 1)).filterMap f = (ks.take j).filterMap f ++ (f k).toList := by
  rw [take_snoc' h, List.filterMap_append]
  congr 1

theorem field114t (a b c d e f : Int) (w : World) : (Instr.field 114 (.agg #[i64 a, i64 b, i64 c, i64 d, i64 e, i64 f]) 1).run Tryz.prog w = .ok (.agg #[i64 c, i64 d, i64 e, i64 f]) w := by kernel_rfl
theorem field105k (c d e f : Int) (w : World) : (Instr.field 105 (.agg #[i64 c, i64 d, i64 e, i64 f]) 0).run Tryz.prog w = .ok (i64 c) w := by kernel_rfl

set_option maxHeartbeats 2000000 in
set_option maxRecDepth 100000 in
theorem all64 (l : List PT) (n : Nat) (hn : l.length = n) (A : Option Addr) (cap : Nat) (w : World) (hv : SlAt w (.slice A n cap) n (l.flatMap PT.cells)) (hl : n ≤ 1000) (hpg : ∀ x ∈ l, ok64 x.tag.page) :
    Calls Tryz.prog 64 #[.slice A n cap] w fun e w' => (∃ (v : Value) (ks : List Int), e = .returned v ∧ ks.Pairwise (· < ·) ∧ (∀ n, n ∈ ks ↔ (newestOf l n).isSome) ∧ w'.ownsRow w.heap.size 114 6 v (ks.filterMap (pickOf (newestOf l))).length ((ks.filterMap (pickOf (newestOf l))).flatMap PT.cells)) ∧ Below w.heap.size w w' := by
  obtain ⟨i0, hi, hz0, hz1, hz2⟩ := info_parts info114
  have hnew := newest105 l n hn A cap w hv hl hpg
  have hdom : ∀ n x, newestOf l n = some x → x ∈ l ∧ x.tag.page = n := fun n x h => newest_dom h
  generalize newestOf l = f at *
  have HNEW := Lib.hid hnew
  have HDOM := Lib.hid hdom
  have HPG := Lib.hid hpg
  clear hnew hdom hv hpg
  have hF1 := field114t
  have hF2 := field105k
  go_enter Tryz.func64, Tryz.ntmps64
  go_wp2_with fail
  refine HNEW.out.mono ?_
  rintro e w1 ⟨⟨b, rfl, hbb, hM⟩, hb1⟩
  have z1 := hb1.size
  obtain ⟨L, hm, hlk, hok⟩ := hM
  have hnd : (L.map (·.1)).Nodup := by obtain ⟨_, _, _, _, _, _, h5⟩ := hm; exact h5
  have hmem : ∀ k, k ∈ L.map (·.1) ↔ (f k).isSome := fun k => by rw [look_keys, hlk]; simp [vals]
  have hLl : L.length ≤ 1000 := by
    have h1 : (L.map (·.1)).length ≤ (l.map fun x => x.tag.page).length := nodup_len hnd fun k hk => by
      obtain ⟨x, hx⟩ := Option.isSome_iff_exists.1 ((hmem k).1 hk)
      obtain ⟨h1, h2⟩ := HDOM.out _ _ hx
      exact List.mem_map.2 ⟨x, h1, h2⟩
    simp at h1; omega
  have HMM : Hid (MapF w1 i64 ok64 b (vals f)) := ⟨L, hm, hlk, hok⟩
  have hsrt : ∀ W, Below w1.heap.size w1 W → W.cell? ⟨w1.heap.size, 0, none⟩ = some (.map (some b)) → Calls Tryz.prog 106 #[.func (.func 148) #[] #[ptr w1.heap.size]] W fun e w' => (∃ (v : Value) (ss : List Int), e = .returned v ∧ ss.Perm (L.map (·.1)) ∧ ss.Pairwise (· ≤ ·) ∧ w'.ownsRow W.heap.size 3 1 v ss.length (ss.map i64)) ∧ Below W.heap.size W w' :=
    fun W hW hc => sorted106 b w1.heap.size L W (hm.below hW) hok (by omega) hc
  have HSRT := Lib.hid hsrt
  have HMEM := Lib.hid hmem
  have HND := Lib.hid hnd
  have HOK := Lib.hid hok
  clear hsrt hmem hnd hm hlk hok
  go_wp2_with fail
  refine (keys107 b w1).mono ?_
  rintro e w2 ⟨rfl, rfl⟩
  go_wp2_with fail
  refine (HSRT.out _ (by (repeat (first | exact Below.refl _ _ | assumption | (with_reducible refine Below.drew ?_) | (with_reducible refine below_drewN' ?_ _) | (with_reducible refine ext_alloc ?_ ?_; · (first | omega | (simp only [World.size_alloc, World.size_setCell, World.size_drew, World.heap_drewN]; omega) | (simp; omega))) | (with_reducible refine ext_setCell ?_ ?_; · (first | omega | (simp only [World.size_alloc, World.size_setCell, World.size_drew, World.heap_drewN]; omega) | (simp; omega))) | (refine ext_call (by assumption) ?_ ?_; · (first | omega | (simp only [World.size_alloc, World.size_setCell, World.size_drew, World.heap_drewN]; omega) | (simp; omega)))))) (by simp)).mono ?_
  rintro e w3 ⟨⟨v, ks, rfl, hp, hle, hown⟩, hb3⟩
  have z3 := hb3.size
  simp only [World.size_alloc] at z3
  have hks : ks.Pairwise (· < ·) := by
    have h1 : ks.Nodup := hp.nodup_iff.2 HND.out
    exact (hle.and h1).imp fun ⟨h1, h2⟩ => by omega
  have hkm : ∀ k, k ∈ ks ↔ (f k).isSome := fun k => by rw [hp.mem_iff]; exact HMEM.out k
  have hkl : ks.length ≤ 1000 := by have := hp.length_eq; simp at this; omega
  have hko : ∀ k ∈ ks, ok64 k := fun k hk => by
    obtain ⟨p, hp', e⟩ := List.mem_map.1 (hp.mem_iff.1 hk)
    rw [← e]; exact HOK.out p hp'
  obtain ⟨hsl, A', cap', rfl⟩ := own_slat hown (by decide)
  obtain ⟨a0, c0, hv0, -, hr⟩ := hsl
  simp only [Value.slice.injEq] at hv0
  obtain ⟨rfl, -, rfl⟩ := hv0
  have hb03 : Below w.heap.size w w3 := by (repeat (first | exact Below.refl _ _ | assumption | (with_reducible refine Below.drew ?_) | (with_reducible refine below_drewN' ?_ _) | (with_reducible refine ext_alloc ?_ ?_; · (first | omega | (simp only [World.size_alloc, World.size_setCell, World.size_drew, World.heap_drewN]; omega) | (simp; omega))) | (with_reducible refine ext_setCell ?_ ?_; · (first | omega | (simp only [World.size_alloc, World.size_setCell, World.size_drew, World.heap_drewN]; omega) | (simp; omega))) | (refine ext_call (by assumption) ?_ ?_; · (first | omega | (simp only [World.size_alloc, World.size_setCell, World.size_drew, World.heap_drewN]; omega) | (simp; omega)))))
  have hM3 : Hid (MapF w3 i64 ok64 b (vals f)) := HMM.out.below (ext_call hb3 (by simp) ((Below.refl _ _).alloc (Nat.le_refl _) _))
  have HKS := Lib.hid hks
  have HKM := Lib.hid hkm
  have HKO := Lib.hid hko
  clear hks hkm hko hp hle hown HMM HSRT
  go_wp2_with fail
  go_loopw [4, 13] (fun r i wr => ∃ j : Nat, j ≤ ks.length ∧ i = .int .i64 j ∧ Below w3.heap.size w3 wr ∧ Hid (wr.ownsRow w3.heap.size 114 6 r ((ks.take j).filterMap (pickOf f)).length (((ks.take j).filterMap (pickOf f)).flatMap PT.cells))) (fun _ i _ => ks.length - (RowKit.intOf i).toNat)
  case atStart => exact ⟨0, Nat.zero_le _, rfl, Below.refl _ _, World.ownsRow_nil _ _ _ _⟩
  case round =>
    obtain ⟨j, hj, rfl, hbr, HOWN⟩ := hrel
    have hz := hbr.size
    have j0 : (0 : Int) ≤ (j : Int) := by omega
    have hkw : IntKind.i64.wrap ((j : Int) + 1) = ((j + 1 : Nat) : Int) := by rw [IntWalk.i64_in _ (by omega)]; omega
    have hfl : ((ks.take j).filterMap (pickOf f)).length ≤ 1000 := by
      have := List.length_filterMap_le (pickOf f) (ks.take j)
      have h2 : (ks.take j).length ≤ j := List.length_take_le _ _
      omega
    by_cases hlt' : j < ks.length
    · obtain ⟨k, hk⟩ : ∃ k, ks[j]? = some k := ⟨ks[j], List.getElem?_eq_getElem hlt'⟩
      have hsn := filterMap_snoc (f := pickOf f) hk
      have hkin := List.mem_of_getElem? hk
      obtain ⟨x, hx⟩ := Option.isSome_iff_exists.1 ((HKM.out k).1 hkin)
      have hkok := HKO.out k hkin
      obtain hr | ⟨vb, off, rfl, hr⟩ := hr
      · exfalso
        have : ks = [] := by simpa using hr
        rw [this] at hlt'; simp at hlt'
      have hc : wr.cell? ⟨vb, off + j, none⟩ = some (i64 k) := ((hr.below hbr) j _ (by simp [hk])).1
      have hvx : (vals f k).getD zero114 = .agg #[i64 x.at_.b, i64 x.at_.p, i64 x.tag.kind, i64 x.tag.page, i64 x.tag.seq, i64 x.tag.epoch] := by simp [vals, hx]
      have HVX := Lib.hid hvx
      have HKOK := Lib.hid hkok
      have hvb := World.block_lt_of_cell? _ _ hc
      have hMr : Hid (MapF wr i64 ok64 b (vals f)) := hM3.out.below hbr
      generalize (ks.take j).filterMap (pickOf f) = dk at *
      clear hr hk hvx hkok hkin
      by_cases hkd : x.tag.kind = 1
      · have k1 : (x.tag.kind == 1) = true := by simpa using hkd
        have hpk : pickOf f k = some x := by simp [pickOf, hx, hkd]
        rw [hpk] at hsn
        have HS := Lib.hid hsn
        clear hsn hpk hkd hx
        have hl6 : x.cells.length = 1 * 6 := rfl
        go_wp2_with (first | (at_lookup; (apply wpl_look1 hMr.out keysI Tryz.underlying142 Tryz.zeroValue114 k HKOK.out HVX.out; (· (repeat (first | exact Below.refl _ _ | assumption | (with_reducible refine Below.drew ?_) | (with_reducible refine below_drewN' ?_ _) | (with_reducible refine ext_alloc ?_ ?_; · (first | omega | (simp only [World.size_alloc, World.size_setCell, World.size_drew, World.heap_drewN]; omega) | (simp; omega))) | (with_reducible refine ext_setCell ?_ ?_; · (first | omega | (simp only [World.size_alloc, World.size_setCell, World.size_drew, World.heap_drewN]; omega) | (simp; omega))) | (refine ext_call (by assumption) ?_ ?_; · (first | omega | (simp only [World.size_alloc, World.size_setCell, World.size_drew, World.heap_drewN]; omega) | (simp; omega)))))); (· rfl); (· rfl); (· rfl); (· rfl))) | (at_builtin; refine stopT ?_))
        unfold Go.RowKit.Hid
        (refine wpList_append_own _ rfl _ _ 110 rfl w3.heap.size 114 i0 zero114 6 48 Tryz.underlying110 hi hz0 hz1 hz2 zero114_size (by decide) _ _ _ rfl (HOWN.out.alloc _) ⟨wr.heap.size, 0, none⟩ 1 1 x.cells rfl hl6 ?c3 (PT.one x) (by unfold maxLen; omega) (by omega) (by simp; omega) ?_)
        case c3 =>
          intro j u hj
          exact PT.new6 wr x 114 j u hj
        intro v2 w4 hown4 hg4 hnil
        clear hnil
        have hb4 : Below w3.heap.size w3 w4 := (hbr.alloc (by omega) _).trans (grown_below hg4 (by simp; omega) (fun g hg' => (HOWN.out.lt g hg').1))
        have HO4 := Lib.hid hown4
        clear hown4 hg4
        go_wp2_with fail
        refine ⟨⟨j + 1, by omega, ?_, hb4, ?_⟩, by simp [RowKit.intOf]; omega⟩
        · first | rfl | (congr 1; done) | (congr 1; omega)
        · rw [HS.out, List.flatMap_append, List.length_append]
          have := HO4.out
          refine Lib.hid ?_
          simpa using this
      · have k1 : (x.tag.kind == 1) = false := by simpa using hkd
        have hpk : pickOf f k = none := by simp [pickOf, hx, hkd]
        rw [hpk] at hsn
        have HS := Lib.hid hsn
        clear hsn hpk hkd hx
        go_wp2_with (first | (at_lookup; (apply wpl_look1 hMr.out keysI Tryz.underlying142 Tryz.zeroValue114 k HKOK.out HVX.out; (· (repeat (first | exact Below.refl _ _ | assumption | (with_reducible refine Below.drew ?_) | (with_reducible refine below_drewN' ?_ _) | (with_reducible refine ext_alloc ?_ ?_; · (first | omega | (simp only [World.size_alloc, World.size_setCell, World.size_drew, World.heap_drewN]; omega) | (simp; omega))) | (with_reducible refine ext_setCell ?_ ?_; · (first | omega | (simp only [World.size_alloc, World.size_setCell, World.size_drew, World.heap_drewN]; omega) | (simp; omega))) | (refine ext_call (by assumption) ?_ ?_; · (first | omega | (simp only [World.size_alloc, World.size_setCell, World.size_drew, World.heap_drewN]; omega) | (simp; omega)))))); (· rfl); (· rfl); (· rfl); (· rfl))))
        refine ⟨⟨j + 1, by omega, ?_, hbr, ?_⟩, by simp [RowKit.intOf]; omega⟩
        · first | rfl | (congr 1; done) | (congr 1; omega)
        · rw [HS.out]; simpa using HOWN
    · have e : j = ks.length := by omega
      subst e
      have e2 : ks.take ks.length = ks := List.take_length
      have h2 := HOWN.out
      rw [e2] at h2
      have H2 := Lib.hid h2
      clear h2 e2
      go_wp2_with fail
      go_ret
      refine ⟨⟨_, ks, rfl, HKS.out, HKM.out, ?_⟩, ext_call hbr (by omega) hb03⟩
      exact ownsRow_base_a H2.out (by omega)
end Go.Proofs.YthghhcnpbehaiaaGreat
