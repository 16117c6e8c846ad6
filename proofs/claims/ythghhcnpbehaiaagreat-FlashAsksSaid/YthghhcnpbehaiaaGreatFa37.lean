/- Which faults may be. -/
import Derived.Test.YthghhcnpbehaiaaGreatFa07

namespace Go.Proofs.YthghhcnpbehaiaaGreat
open Go.RowKit

def fltOk (g : Geo) (pre : List Flt) (f : Flt) : Bool :=
  (faultOf pre f.block).isNone && decide (0 ≤ f.block) && decide (f.block < g.B) && decide (0 ≤ f.after) && decide (f.after ≤ 1073741824) && (!f.factory || f.after == 0)
def allOk (g : Geo) : List Flt → List Flt → Bool
  | _, [] => true
  | pre, f :: r => fltOk g pre f && allOk g (pre ++ [f]) r
def planMay (g : Geo) (fs : List Flt) : Bool := g.okB && decide (fs.length ≤ 8) && allOk g [] fs

theorem allOk_step (g : Geo) (fs : List Flt) (j : Nat) (f : Flt) (hf : fs[j]? = some f) : allOk g (fs.take j) (fs.drop j) = (fltOk g (fs.take j) f && allOk g (fs.take (j + 1)) (fs.drop (j + 1))) := by
  have hl : j < fs.length := (List.getElem?_eq_some_iff.1 hf).1
  have e : fs.drop j = f :: fs.drop (j + 1) := by
    rw [← List.getElem_cons_drop hl, (List.getElem?_eq_some_iff.1 hf).2]
  have e2 : fs.take (j + 1) = fs.take j ++ [f] := by
    rw [List.take_succ_eq_append_getElem hl, (List.getElem?_eq_some_iff.1 hf).2]
  rw [e, e2]; rfl

theorem find99n (fs : List Flt) (n : Nat) (hn : fs.length = n) (A : Option Addr) (cap : Nat) (b : Int) (w : World) (hv : SlAt w (.slice A n cap) n (fs.flatMap Flt.cells)) (hl : n ≤ 20) :
    Calls Tryz.prog 99 #[.slice A n cap, i64 b] w fun e w' => e = .returned (fltOut (faultOf fs b)) ∧ Below w.heap.size w w' := by
  subst hn; exact find99 fs A cap b w hv hl

set_option maxHeartbeats 2000000 in
set_option maxRecDepth 100000 in
theorem planMay55_nil (g : Geo) (A : Option Addr) (cap : Nat) (w : World) :
    Calls Tryz.prog 55 #[.agg #[i64 g.B, i64 g.P, i64 g.Y, i64 g.S, i64 g.T], .slice A 0 cap] w fun e w' => e = .returned (.bool g.okB) ∧ Below w.heap.size w w' := by
  cases hg : g.okB
  · go_enter Tryz.func55, Tryz.ntmps55
    go_wp2_with (go_at_call 98; refine (may_any g _).mono ?_; rw [hg]; rintro e w' ⟨rfl, hb⟩)
    go_ret
    exact ⟨rfl, by (repeat (first | exact Below.refl _ _ | assumption | (with_reducible refine Below.drew ?_) | (with_reducible refine below_drewN' ?_ _) | (with_reducible refine ext_alloc ?_ ?_; · (first | omega | (simp only [World.size_alloc, World.size_setCell, World.size_drew, World.heap_drewN]; omega) | (simp; omega))) | (with_reducible refine ext_setCell ?_ ?_; · (first | omega | (simp only [World.size_alloc, World.size_setCell, World.size_drew, World.heap_drewN]; omega) | (simp; omega))) | (refine ext_call (by assumption) ?_ ?_; · (first | omega | (simp only [World.size_alloc, World.size_setCell, World.size_drew, World.heap_drewN]; omega) | (simp; omega)))))⟩
  · go_enter Tryz.func55, Tryz.ntmps55
    go_wp2_with (go_at_call 98; refine (may_any g _).mono ?_; rw [hg]; rintro e w' ⟨rfl, hb⟩)
    have hz := hb.size
    simp only [World.size_alloc] at hz
    go_loopw [19] (fun i wr => i = .int .i64 0 ∧ Below w'.heap.size w' wr) (fun i _ => 0)
    case atStart => exact ⟨rfl, Below.refl _ _⟩
    case round =>
      obtain ⟨rfl, hbr⟩ := hrel
      go_wp2
      go_ret
      exact ⟨rfl, by (repeat (first | exact Below.refl _ _ | assumption | (with_reducible refine Below.drew ?_) | (with_reducible refine below_drewN' ?_ _) | (with_reducible refine ext_alloc ?_ ?_; · (first | omega | (simp only [World.size_alloc, World.size_setCell, World.size_drew, World.heap_drewN]; omega) | (simp; omega))) | (with_reducible refine ext_setCell ?_ ?_; · (first | omega | (simp only [World.size_alloc, World.size_setCell, World.size_drew, World.heap_drewN]; omega) | (simp; omega))) | (refine ext_call (by assumption) ?_ ?_; · (first | omega | (simp only [World.size_alloc, World.size_setCell, World.size_drew, World.heap_drewN]; omega) | (simp; omega)))))⟩
end Go.Proofs.YthghhcnpbehaiaaGreat
