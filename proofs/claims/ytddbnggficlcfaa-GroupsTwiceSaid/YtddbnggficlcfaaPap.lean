/- The copies of a paper; its size. -/
import Derived.Test.YtddbnggficlcfaaCopy2
import Derived.Outline
namespace Go.Proofs.Ytddbnggficlcfaa
open Go.RowKit
set_option maxRecDepth 100000 in
set_option maxHeartbeats 1000000 in
theorem text_any (P : Int) (A A2 : Option Addr) (N c : Nat) (l : List Nd) (c2 : Nat) (hl : l.length ≤ 1000000) (w : World) (r : Nds w w.heap.size A2 l) :
    Calls Try.prog 18 #[.agg #[.int .i64 P, .slice A N c, .slice A2 l.length c2]] w fun e w' => ∃ A' c', e = .returned (.agg #[.slice A' l.length c']) ∧ w'.ownsRow w.heap.size 78 8 (.slice A' l.length c') l.length (flatN l) ∧ Below w.heap.size w w' := by
  have HC := hid fun W (h : Below w.heap.size w W) => copyText_any l A2 c2 hl W ((r.below h).more h.size)
  have HB := hid (fun (x y : Obj) => ((Below.refl w.heap.size w).alloc (Nat.le_refl _) x).alloc (by simp) y)
  clear r
  generalize l.length = n at *
  go_enter Try.func18, Try.ntmps18
  go_wp2_with (first | (go_at_call 38; refine (HC.out _ (HB.out _ _)).mono ?_; rintro e w3 ⟨A3, c3, rfl, ho3, hb3⟩; have p3 := (hb3.cell (p := ⟨w.heap.size + 1, 0, none⟩) (by simp)).trans (cell_here (by simp) rfl); have z3 := (hb3.frozen (p := ⟨w.heap.size + 1, 0, none⟩) (by simp)).trans (free_here (by simp)); have HO := hid ho3; have HB3 := hid ((HB.out _ _).trans (hb3.mono (by simp; omega))); clear ho3 hb3))
  have hq := World.cell?_setCell_same _ _ (.slice A3 n c3) p3
  exact bodyPost_ret (v := .agg #[.slice A3 n c3]) (by simp [results, Try.results18, go_sem, hq]) rfl ⟨A3, c3, rfl, own_base (ownsRow_setCell_other HO.out (a := ⟨w.heap.size + 1, 0, none⟩) (fun he => by have := (HO.out.lt _ he).1; simp at this <;> omega) _) (by simp; omega), HB3.out.setCell (by simp) _⟩
set_option maxRecDepth 100000 in
set_option maxHeartbeats 1000000 in
theorem list_any (P : Int) (ss : List Sg) (A : Option Addr) (c : Nat) (V : Value) (hl : ss.length ≤ 1000000) (hv : ∀ s ∈ ss, s.vals.length ≤ 1000000) (w : World) (r : Sgs w w.heap.size A ss) :
    Calls Try.prog 17 #[.agg #[.int .i64 P, .slice A ss.length c, V]] w fun e w' => ∃ A' c' ss', e = .returned (.agg #[.int .i64 P, .slice A' ss'.length c']) ∧ LCopy ss ss' w.heap.size A' c' w' ∧ Below w.heap.size w w' := by
  have HC := hid fun W (h : Below w.heap.size w W) => copyList_any P ss A c hl hv W ((r.below h).more h.size)
  have HB := hid (fun (x y : Obj) => ((Below.refl w.heap.size w).alloc (Nat.le_refl _) x).alloc (by simp) y)
  clear r hv
  generalize ss.length = n at *
  go_enter Try.func17, Try.ntmps17
  go_wp2_with (first | (go_at_call 56; refine (HC.out _ (HB.out _ _)).mono ?_; rintro e w3 ⟨A3, c3, ss', rfl, hc3, hb3⟩; have p3 := (hb3.cell (p := ⟨w.heap.size + 1, 0, none⟩) (by simp)).trans (cell_here (by simp) rfl); have z3 := (hb3.frozen (p := ⟨w.heap.size + 1, 0, none⟩) (by simp)).trans (free_here (by simp)); have p4 := (hb3.cell (p := ⟨w.heap.size + 1, 1, none⟩) (by simp)).trans (cell_here (by simp) rfl); have z4 := (hb3.frozen (p := ⟨w.heap.size + 1, 1, none⟩) (by simp)).trans (free_here (by simp)); have HO := hid hc3; have HB3 := hid ((HB.out _ _).trans (hb3.mono (by simp; omega))); clear hc3 hb3))
  have q0 : ((w3.setCell ⟨w.heap.size + 1, 0, none⟩ (.int .i64 P)).setCell ⟨w.heap.size + 1, 1, none⟩ (.slice A3 ss'.length c3)).cell? ⟨w.heap.size + 1, 0, none⟩ = some (.int .i64 P) := cell_set_far (World.cell?_setCell_same _ _ _ p3) (.inr (by decide))
  have q1 : ((w3.setCell ⟨w.heap.size + 1, 0, none⟩ (.int .i64 P)).setCell ⟨w.heap.size + 1, 1, none⟩ (.slice A3 ss'.length c3)).cell? ⟨w.heap.size + 1, 1, none⟩ = some (.slice A3 ss'.length c3) := World.cell?_setCell_same _ _ _ (cell_set_far p4 (.inr (by decide)))
  exact bodyPost_ret (v := .agg #[.int .i64 P, .slice A3 ss'.length c3]) (by simp [results, Try.results17, go_sem, q0, q1]) rfl ⟨A3, c3, ss', rfl, ((HO.out.set (by simp)).set (by simp)).base (by simp; omega), (HB3.out.setCell (by simp) _).setCell (by simp) _⟩
end Go.Proofs.Ytddbnggficlcfaa
