/- WALK: restores, sameInts. -/
import Derived.Test.YtaoddenadfmdbaaFstW
namespace Go.Proofs.Ytaoddenadfmdbaa
open Go.RowKit Go.Maps
def rC1 : ByteArray := ⟨#[65, 49]⟩
def rC2 : ByteArray := ⟨#[66, 50]⟩
def rG : List Sg := [⟨rC1, 1, 1, false, [], none, 0⟩, ⟨rC2, 1, 1, false, [], none, 0⟩]
def rK (g : Nat) : List Cl := [⟨1, 1, [1], some ⟨g, 0, none⟩, 1⟩]
set_option maxRecDepth 100000 in
theorem r_list : listE 1 rG = 0 := by kernel_rfl
theorem r_right (g : Nat) : rightB 2 (rK g) = true := rfl
theorem r_wall (g : Nat) : wallE 1 rG (rK g) [0] = 0 := by
  unfold wallE wcellsE
  rw [r_list]
  have h1 : rightB (rG.length : Nat) (rK g) = true := r_right g
  have h2 : outB (rG.length : Nat) [0] = false := rfl
  rw [h1, h2]
  rfl
theorem acc_inv {cs : List Cl} {i k : Nat} {L : List Int} (h : Acc cs i k L) : (i = cs.length ∧ k = 0 ∧ L = []) ∨ (i < cs.length ∧ (cl cs i).mn ≤ (k : Int) ∧ Acc cs (i + 1) 0 L) ∨ ∃ a S, L = a :: S ∧ i < cs.length ∧ (k : Int) < (cl cs i).mx ∧ alw (cl cs i) a = true ∧ Acc cs i (k + 1) S := by
  cases h with
  | fin => exact .inl ⟨rfl, rfl, rfl⟩
  | eps hi hk h => exact .inr (.inl ⟨hi, hk, h⟩)
  | sgn hi hk ha h => exact .inr (.inr ⟨_, _, rfl, hi, hk, ha, h⟩)
theorem r_acc {g : Nat} {L : List Int} (h : Acc (rK g) 0 0 L) : L = [1] := by
  have hl : (rK g).length = 1 := rfl
  have hc : cl (rK g) 0 = ⟨1, 1, [1], some ⟨g, 0, none⟩, 1⟩ := rfl
  rcases acc_inv h with ⟨h1, _, _⟩ | ⟨_, h2, _⟩ | ⟨a, S, rfl, _, _, h3, h4⟩
  · rw [hl] at h1; omega
  · rw [hc] at h2; simp at h2
  · rw [hc] at h3
    have ha : a = 1 := by simpa [alw] using h3
    subst ha
    rcases acc_inv h4 with ⟨h1, _, _⟩ | ⟨_, _, h5⟩ | ⟨b, S2, rfl, _, h6, _⟩
    · rw [hl] at h1; omega
    · rcases acc_inv h5 with ⟨_, _, rfl⟩ | ⟨h7, _, _⟩ | ⟨b, S2, rfl, h7, _⟩
      · rfl
      · rw [hl] at h7; omega
      · rw [hl] at h7; omega
    · rw [hc] at h6; simp at h6
theorem r_sgs {w : World} {B g : Nat} (h : w.heap[g]? = some (.cells #[.string rC1, .int .i64 1, .int .i64 1, .bool false, .slice none 0 0, .string rC2, .int .i64 1, .int .i64 1, .bool false, .slice none 0 0] 56 (0, 0))) (hg : g < B) : Sgs w B (some ⟨g, 0, none⟩) rG := by
  refine ⟨⟨rfl, fun _ => ⟨⟨g, 0, none⟩, rfl, hg, fun j u hj => ?_⟩⟩, fun s hs => ?_⟩
  · have e : w.cell? ⟨g, 0 + j, none⟩ = (flatS rG)[j]? := by
      simp [World.cell?, h, flatS, rG, Sg.cells]
    rw [Addr.add_lit]
    exact e.trans hj
  · have e : s = ⟨rC1, 1, 1, false, [], none, 0⟩ ∨ s = ⟨rC2, 1, 1, false, [], none, 0⟩ := by simpa [rG] using hs
    rcases e with rfl | rfl
    · exact ⟨rfl, fun h => absurd h (by decide)⟩
    · exact ⟨rfl, fun h => absurd h (by decide)⟩
theorem one_rd {w : World} {B g : Nat} {x : Int} (h : w.cell? ⟨g, 0, none⟩ = some (.int .i64 x)) (hg : g < B) : Rd w B (some ⟨g, 0, none⟩) [x] :=
  ⟨rfl, fun _ => ⟨⟨g, 0, none⟩, rfl, hg, fun j u hj => by
    match j, hj with
    | 0, hj => simp [ints] at hj; subst hj; simpa [Addr.add] using h⟩⟩
theorem r_cls {w : World} {B g gc : Nat} (h : w.heap[gc]? = some (.cells #[.int .i64 1, .int .i64 1, .slice (some ⟨g, 0, none⟩) 1 1] 30 (0, 0))) (h1 : w.cell? ⟨g, 0, none⟩ = some (.int .i64 1)) (hg : g < B) (hgc : gc < B) : Cls w B (some ⟨gc, 0, none⟩) (rK g) := by
  refine ⟨⟨rfl, fun _ => ⟨⟨gc, 0, none⟩, rfl, hgc, fun j u hj => ?_⟩⟩, fun c hc => ?_⟩
  · have e : w.cell? ⟨gc, 0 + j, none⟩ = (flatC (rK g))[j]? := by
      simp [World.cell?, h, flatC, rK, Cl.cells]
    rw [Addr.add_lit]
    exact e.trans hj
  · have e : c = ⟨1, 1, [1], some ⟨g, 0, none⟩, 1⟩ := by simpa [rK] using hc
    subst e
    exact one_rd h1 hg
set_option maxRecDepth 100000 in
set_option maxHeartbeats 4000000 in
theorem restores_any (w : World) : Calls Try.prog 5 #[] w fun e w' => e = .returned (.bool true) ∧ Below w.heap.size w w' := by
  obtain ⟨K, hK⟩ : ∃ K, K = w.heap.size := ⟨_, rfl⟩
  obtain ⟨w1, hw1⟩ : ∃ W, W = (w.alloc (.cells #[.string rC1, .int .i64 1, .int .i64 1, .bool false, .slice none 0 0, .string rC2, .int .i64 1, .int .i64 1, .bool false, .slice none 0 0] 56)).alloc (.cells #[.int .i64 1, .slice (some ⟨K, 0, none⟩) 2 2] 24) := ⟨_, rfl⟩
  have hb1 : Below w.heap.size w w1 := by rw [hw1]; exact ((Below.refl _ _).alloc (Nat.le_refl _) _).alloc (by simp) _
  have hz1 : w1.heap.size = K + 2 := by rw [hw1]; simp [hK]
  have h0 : w1.heap[K]? = some (.cells #[.string rC1, .int .i64 1, .int .i64 1, .bool false, .slice none 0 0, .string rC2, .int .i64 1, .int .i64 1, .bool false, .slice none 0 0] 56 (0, 0)) := by rw [hw1]; exact oldB (nwB hK)
  have p0 : w1.cell? ⟨K + 1, 0, none⟩ = some (.int .i64 1) := by rw [hw1]; exact cell_here (by simp [hK]) rfl
  have p1 : w1.cell? ⟨K + 1, 1, none⟩ = some (.slice (some ⟨K, 0, none⟩) 2 2) := by rw [hw1]; exact cell_here (by simp [hK]) rfl
  obtain ⟨w2, hw2⟩ : ∃ W, W = ((w1.alloc (.cells #[.int .i64 1] 3)).alloc (.cells #[.int .i64 1, .int .i64 1, .slice (some ⟨K + 2, 0, none⟩) 1 1] 30)).alloc (.cells #[.int .i64 0] 3) := ⟨_, rfl⟩
  have hb2 : Below w1.heap.size w1 w2 := by rw [hw2]; exact (((Below.refl _ _).alloc (Nat.le_refl _) _).alloc (by simp) _).alloc (by simp; omega) _
  have hz2 : w2.heap.size = K + 5 := by rw [hw2]; simp [hz1]
  have g2 : w2.cell? ⟨K + 2, 0, none⟩ = some (.int .i64 1) := by rw [hw2]; exact cell_old (cell_old (cell_here hz1.symm rfl))
  have g3 : w2.heap[K + 3]? = some (.cells #[.int .i64 1, .int .i64 1, .slice (some ⟨K + 2, 0, none⟩) 1 1] 30 (0, 0)) := by rw [hw2]; exact oldB (nwB (by simp [hz1]))
  have g4 : w2.cell? ⟨K + 4, 0, none⟩ = some (.int .i64 0) := by rw [hw2]; exact cell_here (by simp [hz1]) rfl
  have hrs := Restore_any 1 rG (rK (K + 2)) [0] (by decide) (fun s hs => by
    have e : s = ⟨rC1, 1, 1, false, [], none, 0⟩ ∨ s = ⟨rC2, 1, 1, false, [], none, 0⟩ := by simpa [rG] using hs
    rcases e with rfl | rfl <;> exact ⟨by decide, by decide⟩) (show (1 : Nat) ≤ 8 by omega) (fun c hc => by
    have e : c = ⟨1, 1, [1], some ⟨K + 2, 0, none⟩, 1⟩ := by simpa [rK] using hc
    subst e; exact ⟨by simp, by simp⟩) (show (1 : Nat) ≤ 12 by omega) (fun c hc => by
    have e : c = ⟨1, 1, [1], some ⟨K + 2, 0, none⟩, 1⟩ := by simpa [rK] using hc
    subst e; simp) (by decide) (some ⟨K, 0, none⟩) (some ⟨K + 3, 0, none⟩) (some ⟨K + 4, 0, none⟩) 2 1 1 w2 (r_sgs ((hb2.block _ (by omega)).trans h0) (by omega)) (r_cls g3 g2 (by omega) (by omega)) (one_rd g4 (by omega))
  rw [r_wall] at hrs
  have HRS := hid hrs; have HW1 := hid hw1; have HW2 := hid hw2; have HK := hid hK; have HB2 := hid (hb1.trans (hb2.mono hb1.size))
  have HZ1 := hid hz1
  clear hrs hw1 hw2 hK hb1 hb2 hz1 hz2 h0 g2 g3 g4
  go_enter Try.func5, Try.ntmps5
  go_upto_region 2 with (fail)
  have e2 := HW1.out
  unfold rC1 rC2 at e2
  rw [← HK.out]
  rw [← e2]
  clear e2 HW1
  go_upto_region 3 with (first | (go_at_call 7; rw [HZ1.out, ← HW2.out]; refine HRS.out.mono ?_; rintro e w3 ⟨hR, hb3⟩; obtain ⟨_, L, A, c, A5, n5, c5, A6, n6, c6, b0, hk, rfl, hown, hacc, hr⟩ := hR.resolve_left (fun h => h.1 rfl); obtain rfl : L = [1] := r_acc hacc; have HB3 := hid (HB2.out.trans (hb3.mono HB2.out.size)); have HO := hid hown; clear hR hb3 hk hown hacc hr))
  obtain ⟨g, cap, cur, hv, _⟩ := (HO.out.2).resolve_left (fun h => by simp at h)
  injection hv with e1 _ e3
  subst e1
  subst e3
  have q0 := HO.out.cells (g := g) rfl 0 _ rfl
  simp only [Addr.add_lit, Nat.zero_add] at q0
  have q1 := cell_old (o := .cells #[.slice (some ⟨g, 0, none⟩) 1 c, .slice A5 n5 c5, .slice A6 n6 c6, .int .i64 1] 33) q0
  have hED : ((ED [1] [0] : Nat) : Int) = 1 := rfl
  rw [hED]
  clear q0 HO hED
  go_wp2_with fail
  go_ret
  exact ⟨rfl, HB3.out.alloc HB3.out.size _⟩
set_option maxRecDepth 100000 in
set_option maxHeartbeats 4000000 in
theorem sameInts_self (l : List Int) (A B : Option Addr) (c c2 : Nat) (hl : l.length ≤ 1000000) (w : World) (ra : Rd w w.heap.size A l) (rb : Rd w w.heap.size B l) :
    Calls Try.prog 11 #[.slice A l.length c, .slice B l.length c2] w fun e w' => e = .returned (.bool true) ∧ ∃ q, w' = w.drewN q := by
  obtain ⟨m, hm⟩ : ∃ m, m = l.length := ⟨_, rfl⟩
  rw [← hm] at hl ⊢
  have HM := hid hm; have HA := hid ra; have HB := hid rb
  have e0 : ((m : Int) != (m : Int)) = false := by simp
  clear hm ra rb
  go_enter Try.func11, Try.ntmps11
  go_wp2_with fail
  go_loopw [5] (fun iv wr => ∃ i : Nat, i ≤ m ∧ iv = .int .i64 (i : Int) ∧ ∃ q, wr = w.drewN q) (fun iv _ => m - (intOf iv).toNat)
  case atStart => exact ⟨0, by omega, rfl, 0, rfl⟩
  case round =>
    obtain ⟨i, hi, rfl, q, rfl⟩ := hrel
    by_cases him : i < m
    · have q0 : (i : Int) < (m : Int) := by omega
      obtain ⟨b1, o1, rfl, _, hc1⟩ := HA.out.at (by rw [← HM.out]; omega)
      obtain ⟨b2, o2, rfl, _, hc2⟩ := HB.out.at (by rw [← HM.out]; omega)
      have p1 := hc1 i (by rw [← HM.out]; exact him)
      have p2 := hc2 i (by rw [← HM.out]; exact him)
      generalize nth l i = x at p1 p2
      have e2 : (x != x) = false := by simp
      clear hc1 hc2
      go_wp2_with fail
      go_quiet (fail)
      go_wp2_with fail
      go_roundw
      case rel => exact ⟨i + 1, by omega, by go_num, _, rfl⟩
      case measure => simp [intOf]; omega
    · obtain rfl : i = m := by omega
      have q0 : decide ((i : Int) < (i : Int)) = false := by simp
      go_wp2_with fail
      go_ret
      exact ⟨rfl, q, rfl⟩
end Go.Proofs.Ytaoddenadfmdbaa
