/- WALK: groups.line as a whole. -/
import Derived.Test.YtddbnggficlcfaaLine
namespace Go.Proofs.Ytddbnggficlcfaa
open Go.RowKit Go.Shelf
set_option maxRecDepth 100000 in
theorem noRing_any (a b c : Value) (w : World) : Calls Try.prog 81 #[a, b, c] w fun e w' => e = .returned (.tuple #[]) ∧ w = w' := by
  go_enter Try.func81, Try.ntmps81
  go_wp2_with fail
  go_end0
  exact ⟨rfl, rfl⟩
theorem line_told (l : List Nd) (A : Option Addr) (c n0 B0 : Nat) (w : World) (hn0 : n0 ≤ B0) :
    Told l A c n0 (B0 + 2) 93 #[.pointer (some ⟨B0 + 1, 0, none⟩), .pointer (some ⟨B0, 0, none⟩)] 81 #[] (fun ls _ W => LJ l A c B0 w ls W) where
  below := fun _ _ _ _ h hb => h.below hb
  read := fun _ _ _ v h _ => h.read v
  leaf := fun ls rs i W hJ hV hi _ hlen => line1_any l A c n0 B0 _ _ w hn0 ls i hi hlen W hJ hV
  ring := fun ls rs i fr W hJ hV _ _ _ _ _ => (noRing_any _ _ _ W).mono fun e w' ⟨h1, h2⟩ => by subst h2; exact ⟨h1, hJ, KV.refl _ _ _, rfl⟩
  lent := enters_of Try.func93 (by kernel_rfl) rfl
  rent := enters_of Try.func81 (by kernel_rfl) rfl
/-- Every Honour has at least two kids. -/
def HonOk (l : List Nd) : Prop := ∀ i : Nat, i < l.length → kd l i = 7 → 2 ≤ (kidsOf l (i : Int)).length
def marks (l : List Nd) : List Mk := (leaves l).map (mkAt l)
set_option maxRecDepth 100000 in
set_option maxHeartbeats 1000000 in
theorem line_any (l : List Nd) (hl : l.length ≤ 1000000) (hH : HonOk l) (A : Option Addr) (c n0 : Nat) (w : World) (hn0 : n0 ≤ w.heap.size) (r : Nds w n0 A l) :
    Calls Try.prog 68 #[.agg #[.slice A l.length c]] w fun e w' => ∃ v, e = .returned v ∧ w'.ownsRow w.heap.size 70 4 v (marks l).length (flatM (marks l)) ∧ Below w.heap.size w w' := by
  obtain ⟨W, hW⟩ : ∃ W, W = (w.alloc (.cells #[.slice A l.length c] 27)).alloc (.cells #[.slice none 0 0] 44) := ⟨_, rfl⟩
  have hb : Below w.heap.size w W := by rw [hW]; exact ((Below.refl _ _).alloc (Nat.le_refl _) _).alloc (by simp) _
  have hz : W.heap.size = w.heap.size + 2 := by rw [hW]; simp
  have T := line_told l A c n0 w.heap.size w hn0
  rw [← hz] at T
  have h1 : W.heap[w.heap.size]? = some (.cells #[.slice A l.length c] 27 (0, 0)) := by
    rw [hW, Below.heap_alloc _ _ _ (by simp)]
    exact heap_alloc_new _ _
  have h2 : W.heap[w.heap.size + 1]? = some (.cells #[.slice none 0 0] 44 (0, 0)) := by
    rw [hW]
    have := heap_alloc_new (w.alloc (.cells #[.slice A l.length c] 27)) (.cells #[.slice none 0 0] 44)
    simpa using this
  have hJ : LJ l A c w.heap.size w [] W := ⟨h1, ⟨_, h2, World.ownsRow_nil _ _ _ _⟩, hb⟩
  have ho := order_any l hl hH A c n0 _ _ _ _ W (by omega) (r.below (hb.mono hn0)) _ T hJ
  have p1 := cell_of_one h1
  have HO := hid ho; have HW := hid hW; have HB := hid hb
  clear ho T hJ h1 h2 hb hz r hH
  obtain ⟨N, hN⟩ : ∃ N, N = l.length := ⟨_, rfl⟩
  rw [← hN] at hl HO HW p1 ⊢
  clear hN
  go_enter Try.func68, Try.ntmps68
  go_wp2_with fail
  have hc := HO.out
  rw [HW.out] at hc
  refine hc.mono ?_
  rintro e w6 ⟨rfl, j6, _⟩
  obtain ⟨v, o1, o2⟩ := j6.o_
  have p2 := cell_of_one o1
  have HV := hid (own_base o2 (show w.heap.size ≤ w.heap.size + 7 by omega))
  have HB6 := hid j6.bel
  clear hc HO j6 o1 o2
  go_wp2_with fail
  go_ret
  refine ⟨_, rfl, ?_, HB6.out⟩
  unfold marks
  rw [List.length_map]
  exact HV.out
end Go.Proofs.Ytddbnggficlcfaa
