/- ostraconref02.Leaves. -/
import Derived.Test.YtddbnggficlcfaaRFam
import Derived.Test.YtddbnggficlcfaaCopy
import Derived.Test.YtddbnggficlcfaaLine2
import Derived.Test.YtddbnggficlcfaaOrdE
import Derived.Deep.RegionHeld3
import Derived.Test.YtddbnggficlcfaaKidsE
namespace Go.Proofs.Ytddbnggficlcfaa
open Go.RowKit Go.Shelf
/-- A function that answers numbers of nodes. -/
def NatsPost (L : List Nat) (w : World) (e : Ending) (w' : World) : Prop := ∃ v, e = .returned v ∧ w'.ownsRow w.heap.size 3 1 v L.length (ints (nz L)) ∧ Below w.heap.size w w'
def leafN (l : List Nd) (node : Int) : Prop := 0 ≤ node ∧ leafB (kd l node.toNat) = true
def honN (l : List Nd) (node : Int) : Prop := 0 ≤ node ∧ kd l node.toNat = 7
theorem nz_app (a b : List Nat) : nz (a ++ b) = nz a ++ nz b := by unfold nz; rw [List.map_append]
set_option maxRecDepth 100000 in
set_option maxHeartbeats 8000000 in
theorem refLeaves_any (l : List Nd) (hw : WfN l) (hd : DepOk l) (hl : l.length ≤ 1000000) (hH : HonOk l) (A : Option Addr) (c : Nat) : ∀ (f : Nat) (node : Int) (w : World), -1 ≤ node → node < l.length → (l.length : Int) - node ≤ f → Nds w w.heap.size A l →
    Calls Try.prog 69 #[.agg #[.slice A l.length c], .int .i64 node] w (NatsPost (lvs l f node) w) := by
  intro f
  induction f with
  | zero => intro node w h1 h2 h3; omega
  | succ f ih =>
    intro node w h1 h2 h3 r
    obtain ⟨w1, hw1⟩ : ∃ w1, w1 = w.alloc (.cells #[.slice A l.length c] 27) := ⟨_, rfl⟩
    have hb1 : Below w.heap.size w w1 := by rw [hw1]; exact (Below.refl _ _).alloc (Nat.le_refl _) _
    have hz1 : w.heap.size < w1.heap.size := by rw [hw1]; simp
    have c0 : w1.cell? ⟨w.heap.size, 0, none⟩ = some (.slice A l.length c) := by rw [hw1]; exact cell_here rfl rfl
    have HW : Hid (∀ wr, Below w1.heap.size w1 wr → Below w.heap.size w wr) := fun wr h => hb1.trans (h.mono (by omega))
    obtain ⟨lf, hlf⟩ : ∃ x : Bool, (x = true ↔ leafN l node) := by
      by_cases h : leafN l node
      · exact ⟨true, iff_of_true rfl h⟩
      · exact ⟨false, iff_of_false (by simp) h⟩
    obtain ⟨hn, hhn⟩ : ∃ x : Bool, (x = true ↔ honN l node) := by
      by_cases h : honN l node
      · exact ⟨true, iff_of_true rfl h⟩
      · exact ⟨false, iff_of_false (by simp) h⟩
    have hlen : (lvs l (f + 1) node).length ≤ l.length := by
      have := lvs_len (l := l) (f + 1) node h1 h2
      unfold span at this
      split at this
      · have := endOf_le (l := l) (i := node.toNat) (by omega)
        omega
      · omega
    have m1 : lf = true → 0 ≤ node ∧ lvs l (f + 1) node = [node.toNat] := fun h => ⟨(hlf.1 h).1, by unfold lvs; exact if_pos (hlf.1 h)⟩
    have m2 : lf = false → lvs l (f + 1) node = dn l f (ordK l node) (ordK l node).length := fun h => lvs_no fun h2 => by have := hlf.2 h2; rw [h] at this; cases this
    have m3 : hn = true → ordK l node = (kidsOf l node).tail ++ (kidsOf l node).take 1 ∧ 2 ≤ (kidsOf l node).length := fun h => by
      have h4 := hhn.1 h
      refine ⟨if_pos h4, ?_⟩
      have := hH node.toNat (by have := h4.1; omega) h4.2
      rwa [show ((node.toNat : Nat) : Int) = node from Int.toNat_of_nonneg h4.1] at this
    have m4 : hn = false → ordK l node = kidsOf l node := fun h => if_neg fun h2 => by have := hhn.2 h2; rw [h] at this; cases this
    have hkr := fun (W : World) (h : Below w.heap.size w W) => refKids_any l node h1 h2 hd hl A c W ((r.below h).more h.size)
    rw [rkids_eq hw h1 h2] at hkr
    have hkl := kidsOf_len h2
    have hok : (ordK l node).length ≤ l.length := by
      unfold ordK
      split
      · rw [List.length_append, List.length_tail, List.length_take]; omega
      · exact hkl
    have hmem := fun x (h : x ∈ ordK l node) => kidsOf_mem h1 h2 (ordK_mem h)
    have hih := fun (k : Nat) (hk : node < k ∧ k < l.length) (W : World) (h : Below w.heap.size w W) => ih (k : Int) W (by omega) (by omega) (by omega) ((r.below h).more h.size)
    have hnode : 0 ≤ node → ∃ b o k, A = some ⟨b, o, none⟩ ∧ b < w.heap.size ∧ w.cell? ⟨b, o + node.toNat * 8, none⟩ = some (.int .i64 k) ∧ (lf = true ↔ leafB k = true) ∧ (hn = true ↔ k = 7) := fun h => by
      obtain ⟨b, o, e, hb, hc⟩ := r.at (by omega)
      have hi : node.toNat < l.length := by omega
      refine ⟨b, o, kd l node.toNat, e, hb, by rw [kd_at hi]; exact (hc _ hi).kind, hlf.trans ⟨fun h2 => h2.2, fun h2 => ⟨h, h2⟩⟩, hhn.trans ⟨fun h2 => h2.2, fun h2 => ⟨h, h2⟩⟩⟩
    have hneg : ¬ 0 ≤ node → lf = false ∧ hn = false := fun h => ⟨by cases hx : lf with
      | false => rfl
      | true => exact absurd (hlf.1 hx).1 h, by cases hx : hn with
      | false => rfl
      | true => exact absurd (hhn.1 hx).1 h⟩
    generalize lvs l (f + 1) node = LV at m1 m2 hlen ⊢
    generalize ordK l node = OK at m2 m3 m4 hmem hok
    generalize kidsOf l node = KS at m3 m4 hkr hkl
    obtain ⟨n, hnn⟩ : ∃ n, n = l.length := ⟨_, rfl⟩
    rw [← hnn] at c0 hw1 hkr hkl hih hl h2 h3 hlen hmem hok ⊢
    have HW1 := hid hw1; have M1 := hid m1; have M2 := hid m2; have M3 := hid m3; have M4 := hid m4; have HKR := hid hkr; have HIH := hid hih; have HND := hid hnode; have HNG := hid hneg; have HMM := hid hmem; have HB1 := hid hb1; have HLEN := hid hlen; have HKL := hid hkl; have HOKB := hid hok
    clear hw1 m1 m2 m3 m4 hkr hih hnode hneg hmem hb1 hlf hhn ih r hw hd hH hnn hlen hkl hok
    go_enter Try.func69, Try.ntmps69
    go_upto_region 1 with (fail)
    rw [← HW1.out]
    clear HW1
    have HC0 := hid fun (wr : World) (h : Below w1.heap.size w1 wr) => (h.cell (p := ⟨w.heap.size, 0, none⟩) hz1).trans c0
    obtain ⟨B0, hB0⟩ : ∃ B0, B0 = w.heap.size := ⟨_, rfl⟩
    rw [← hB0] at c0 HC0 hz1 ⊢
    clear hB0
    go_cut [18] (fun s18 wx => s18 = .bool lf ∧ w1 = wx)
    case first =>
      by_cases h0 : 0 ≤ node
      · obtain ⟨b, o, k, rfl, hb, hk, hl1, hl2⟩ := HND.out h0
        obtain ⟨i, rfl⟩ : ∃ i : Nat, node = i := ⟨node.toNat, by omega⟩
        rw [Int.toNat_natCast] at hk
        have hk1 := (HB1.out.cell (p := ⟨b, o + i * 8, none⟩) hb).trans hk
        have g0 : decide ((0 : Int) ≤ (i : Int)) = true := decide_eq_true h0
        have hIL := fun W => leaf_any k W
        have hlk : leafB k = lf := Bool.eq_iff_iff.2 hl1.symm
        rw [hlk] at hIL
        have HIL := hid hIL
        clear hl1 hl2 hIL hlk hk M1 M2 M3 M4 HNG HND HIH HMM
        go_wp2_with (first | (go_at_call 89; refine (HIL.out _).mono ?_; rintro e w3 ⟨rfl, rfl⟩))
        go_meet
        exact ⟨by simp, rfl⟩
      · have hng := hid (HNG.out h0).1
        have g0 : decide ((0 : Int) ≤ node) = false := decide_eq_false h0
        have g1 : node < 0 := by omega
        clear M1 M2 M3 M4 HNG HND HIH HMM
        go_wp2_with fail
        all_goals first | (exfalso; omega) | (go_meet; exact ⟨by rw [hng.out], rfl⟩)
    obtain ⟨rfl, rfl⟩ := hcut
    cases lf with
    | true =>
      obtain ⟨h0, hLV⟩ := M1.out rfl
      obtain ⟨i, rfl⟩ : ∃ i : Nat, node = i := ⟨node.toNat, by omega⟩
      rw [Int.toNat_natCast] at hLV
      have HLV := hid hLV
      have hown := own_lit w1 (B := w.heap.size) 3 #[.int .i64 (i : Int)] (n := 1) (size := 1) HB1.out.size rfl (by decide)
      have HO := hid hown
      clear M1 M2 M3 M4 HNG HND HIH HMM hLV hown
      go_wp2_with fail
      go_ret
      exact ⟨.slice (some ⟨w1.heap.size, 0, none⟩) 1 1, rfl, by rw [HLV.out]; exact HO.out, HB1.out.alloc HB1.out.size _⟩
    | false =>
      have hLV := M2.out rfl
      have HLV := hid hLV
      clear M1 M2 hLV
      go_upto_region 4 with (first | (go_at_call 67; refine (HKR.out _ HB1.out).mono ?_; rintro e w3 ⟨v3, rfl, ho3, hb3⟩; obtain ⟨A3, c3, rfl⟩ := own_slice ho3; have HO3 := hid ho3; have HB3 := hid hb3; clear ho3 hb3 c0))
      go_cut [34] (fun s34 wx => s34 = .bool hn ∧ w3 = wx)
      case first =>
        have p0 := HC0.out w3 HB3.out
        by_cases h0 : 0 ≤ node
        · obtain ⟨b, o, k, rfl, hb, hk, hl1, hl2⟩ := HND.out h0
          obtain ⟨i, rfl⟩ : ∃ i : Nat, node = i := ⟨node.toNat, by omega⟩
          rw [Int.toNat_natCast] at hk
          have hk1 := ((HW.out _ HB3.out).cell (p := ⟨b, o + i * 8, none⟩) hb).trans hk
          have g0 : decide ((0 : Int) ≤ (i : Int)) = true := decide_eq_true h0
          have hlk : (k == 7) = hn := by rw [Bool.eq_iff_iff]; simp only [beq_iff_eq]; exact hl2.symm
          have HLK := hid hlk
          clear hl1 hl2 hlk hk M3 M4 HNG HND HIH HMM
          go_wp2_with fail
          go_meet
          exact ⟨by rw [← HLK.out], rfl⟩
        · have hng := hid (HNG.out (by omega)).2
          have g0 : decide ((0 : Int) ≤ node) = false := decide_eq_false h0
          have g1 : node < 0 := by omega
          clear M3 M4 HNG HND HIH HMM
          go_wp2_with fail
          all_goals first | (exfalso; omega) | (go_meet; exact ⟨by rw [hng.out], rfl⟩)
      obtain ⟨rfl, rfl⟩ := hcut
      go_upto_if 34 with (fail)
      go_cut [5] (fun s5 wx => ∃ (A5 : Option Addr) (c5 : Nat), s5 = .slice A5 OK.length c5 ∧ Hid (Rd wx wx.heap.size A5 (nz OK)) ∧ Hid (Below w1.heap.size w1 wx))
      case first =>
        cases hn with
        | false =>
          have hM := M4.out rfl
          have HR := hid (Reads.of_own HO3.out)
          clear M3 M4 HNG HND HIH HMM HLV
          subst hM
          go_wp2_with fail
          go_meet
          exact ⟨A3, c3, rfl, by show Hid (Reads _ _ 1 _ _ _); rw [nz_len]; exact HR, HB3⟩
        | true =>
          obtain ⟨hM, hM2⟩ := M3.out rfl
          obtain ⟨m, hm⟩ : ∃ m, m = KS.length := ⟨_, rfl⟩
          have hkl := HKL.out
          have ho3 := HO3.out
          rw [← hm] at hM2 hkl ho3 ⊢
          obtain ⟨g, c3', hA3, hg1, hg2⟩ := ho3.form (by omega)
          have hcap := own_cap' ho3
          injection hA3 with hA3 _ hc3
          subst hA3
          subst hc3
          have hk0 : w3.cell? ⟨g, 0, none⟩ = some (.int .i64 (KS.getD 0 0 : Nat)) := by
            rw [ho3.cellAt 0 (by omega), ints_get (l := nz KS) (by rw [nz_len]; omega)]
            have := nth_nz (x := KS) (i := 0) (by omega)
            unfold nth at this
            rw [this]
          have hrt : Rd w3 w3.heap.size (some ⟨g, 1, none⟩) (nz KS.tail) := by
            refine ⟨by simp, fun _ => ⟨_, rfl, hg2, fun j u hu => ?_⟩⟩
            rw [Addr.add_lit]
            have hj := (List.getElem?_eq_some_iff.1 hu).1
            rw [ints_length, nz_len, List.length_tail] at hj
            rw [ho3.cellAt (1 + j) (by omega)]
            unfold nz ints at hu ⊢
            rw [List.map_map] at hu ⊢
            rw [List.getElem?_map] at hu ⊢
            rw [List.getElem?_tail] at hu
            rw [Nat.add_comm]
            exact hu
          have htl : (nz KS.tail).length = m - 1 := by rw [nz_len, List.length_tail, hm]
          have hOKl : OK.length = m := by rw [hM, List.length_append, List.length_tail, List.length_take]; omega
          have hOKn : ints (nz OK) = ints (nz KS.tail) ++ [.int .i64 (KS.getD 0 0 : Nat)] := by
            rw [hM, nz_app, ints_append]
            congr 1
            obtain ⟨a, b, rfl⟩ : ∃ a b, KS = a :: b := by
              cases KS with
              | nil => simp at hm; omega
              | cons a b => exact ⟨a, b, rfl⟩
            rfl
          have hem := own_lit w3 (B := w3.heap.size) 3 #[] (n := 0) (size := 1) (Nat.le_refl _) rfl (by decide)
          have hOE : (w3.alloc (.cells #[] 3)).ownsRow w3.heap.size 3 1 (.slice (some ⟨w3.heap.size, 0, none⟩) 0 0) 0 (ints []) := hem
          obtain ⟨x0, hx0⟩ : ∃ x : Nat, x = KS.getD 0 0 := ⟨_, rfl⟩
          rw [← hx0] at hk0 hOKn
          have HRT := hid hrt; have HTL := hid htl; have HOKL := hid hOKl; have HOKN := hid hOKn; have HOE := hid hOE
          have hm1 : (1 : Int) ≤ (m : Int) := by omega
          have hcc : ¬ c3 = 1 := by omega
          have hc1 : 1 ≤ c3 := by omega
          have hmc : (m : Int) ≤ (c3 : Int) := by omega
          clear M3 M4 HNG HND HIH HMM HLV hM ho3 hrt htl hOKl hOKn hem hOE hx0 HO3 hm
          have HOE2 := hid (show ((w3.alloc (.cells #[] 3)).alloc (.cells #[.int .i64 (x0 : Int)] 3)).drew.ownsRow w3.heap.size 3 1 (.slice (some ⟨w3.heap.size, 0, none⟩) 0 0) 0 (ints []) from HOE.out.alloc _)
          have HB2 := hid (show Below w3.heap.size w3 ((w3.alloc (.cells #[] 3)).alloc (.cells #[.int .i64 (x0 : Int)] 3)).drew from (((Below.refl _ _).alloc (Nat.le_refl _) _).alloc (by simp) _).drew)
          have HRT2 := hid (HRT.out.below HB2.out)
          have HS2 := hid HB2.out.size
          have HX2 := hid (fun (w4 : World) (hg4 : ((w3.alloc (.cells #[] 3)).alloc (.cells #[.int .i64 (x0 : Int)] 3)).drew.grownBy w4 (some w3.heap.size)) => (hg4.cell_far ⟨w3.heap.size + 1, 0, none⟩ (by simp) (fun h => by have h2 := Option.some.inj h; simp at h2)).trans (show _ = some (.int .i64 (x0 : Int)) from cell_new1_at (w3.alloc (.cells #[] 3)) (.int .i64 (x0 : Int)) 3 (by simp)))
          have HOE3 := hid (show ((w3.alloc (.cells #[.int .i64 (x0 : Int)] 3)).alloc (.cells #[] 3)).drew.ownsRow w3.heap.size 3 1 (.slice (some ⟨w3.heap.size + 1, 0, none⟩) 0 0) 0 (ints []) from by
            have := own_lit (w3.alloc (.cells #[.int .i64 (x0 : Int)] 3)) (B := w3.heap.size) 3 #[] (n := 0) (size := 1) (by simp) rfl (by decide)
            rw [show (w3.alloc (.cells #[.int .i64 (x0 : Int)] 3)).heap.size = w3.heap.size + 1 by simp] at this
            exact this)
          have HB3' := hid (show Below w3.heap.size w3 ((w3.alloc (.cells #[.int .i64 (x0 : Int)] 3)).alloc (.cells #[] 3)).drew from (((Below.refl _ _).alloc (Nat.le_refl _) _).alloc (by simp) _).drew)
          have HRT3 := hid (HRT.out.below HB3'.out)
          have HS3 := hid HB3'.out.size
          have HX3 := hid (fun (w4 : World) (hg4 : ((w3.alloc (.cells #[.int .i64 (x0 : Int)] 3)).alloc (.cells #[] 3)).drew.grownBy w4 (some (w3.heap.size + 1))) => (hg4.cell_far ⟨w3.heap.size, 0, none⟩ (by simp; omega) (fun h => by have h2 := Option.some.inj h; simp at h2)).trans (show _ = some (.int .i64 (x0 : Int)) from cell_old (cell_new1 w3 (.int .i64 (x0 : Int)) 3)))
          have h0m : (0 : Int) < (m : Int) := by omega
          have h0n : 0 < m := by omega
          go_wp2_with fail
          go_region_law (first
            | (refine step_rd rfl (.tmp 35) (.tmp 37) Try.underlying38 Try.infoInt rfl (by decide) rfl w3.heap.size _ 0 [] rfl HOE.out (some ⟨g, 1, none⟩) (m - 1) (c3 - 1) w3.heap.size (nz KS.tail) (by simp [Act.eval]) HTL.out (HRT.out.below ((Below.refl _ _).alloc (Nat.le_refl _) _).drew) (by omega) (by simp) ?_; intro v4 w4 ho4 hg4; have HB4 := hid (below_app ((Below.refl w3.heap.size w3).alloc (Nat.le_refl _) _).drew HOE.out hg4 (Nat.le_refl _) (by simp)); rw [Nat.zero_add, List.nil_append] at ho4; obtain ⟨A4, c4, rfl⟩ := own_slice ho4; have HO4 := hid ho4; have hk4 := (HB4.out.cell (p := ⟨g, 0, none⟩) hg2).trans hk0; clear ho4 hg4)
            | (refine step_rd rfl (.tmp 35) (.tmp 37) Try.underlying38 Try.infoInt rfl (by decide) rfl w3.heap.size _ 0 [] rfl HOE2.out (some ⟨g, 1, none⟩) (m - 1) (c3 - 1) w3.heap.size (nz KS.tail) (by simp [Act.eval]) HTL.out HRT2.out (by omega) HS2.out ?_; intro v4 w4 ho4 hg4; have HB4 := hid (below_app HB2.out HOE2.out hg4 (Nat.le_refl _) HS2.out); have hx4 := HX2.out w4 hg4; rw [Nat.zero_add, List.nil_append] at ho4; obtain ⟨A4, c4, rfl⟩ := own_slice ho4; have HO4 := hid ho4; clear ho4 hg4)
            | (refine step_rd rfl (.tmp 35) (.tmp 37) Try.underlying38 Try.infoInt rfl (by decide) rfl w3.heap.size _ 0 [] rfl HOE3.out (some ⟨g, 1, none⟩) (m - 1) (c3 - 1) w3.heap.size (nz KS.tail) (by simp [Act.eval]) HTL.out HRT3.out (by omega) HS3.out ?_; intro v4 w4 ho4 hg4; have HB4 := hid (below_app HB3'.out HOE3.out hg4 (Nat.le_refl _) HS3.out); have hx4 := HX3.out w4 hg4; rw [Nat.zero_add, List.nil_append] at ho4; obtain ⟨A4, c4, rfl⟩ := own_slice ho4; have HO4 := hid ho4; clear ho4 hg4)
            | (refine step_one rfl (.tmp 38) (.tmp 42) Try.underlying38 Try.infoInt rfl (by decide) rfl w3.heap.size _ (m - 1) _ rfl (HO4.out.alloc _) ⟨w4.heap.size, 0, none⟩ (.int .i64 x0) (by simp [Act.eval]) (cell_new1 _ _ _) rfl (by omega) (by have := HB4.out.size; simp; omega) ?_; intro v6 w6 ho6 hg6; have HB6 := hid (below_app (HB4.out.alloc HB4.out.size _) (HO4.out.alloc _) hg6 (Nat.le_refl _) (by have := HB4.out.size; simp; omega)); obtain ⟨A6, c6, rfl⟩ := own_slice ho6; have HO6 := hid ho6; clear ho6 hg6)
            | (refine step_one rfl (.tmp 38) (.tmp 42) Try.underlying38 Try.infoInt rfl (by decide) rfl w3.heap.size _ (m - 1) _ rfl HO4.out ⟨w3.heap.size + 1, 0, none⟩ (.int .i64 x0) (by simp [Act.eval]) hx4 rfl (by omega) HB4.out.size ?_; intro v6 w6 ho6 hg6; have HB6 := hid (below_app HB4.out HO4.out hg6 (Nat.le_refl _) HB4.out.size); obtain ⟨A6, c6, rfl⟩ := own_slice ho6; have HO6 := hid ho6; clear ho6 hg6)
            | (refine step_one rfl (.tmp 38) (.tmp 42) Try.underlying38 Try.infoInt rfl (by decide) rfl w3.heap.size _ (m - 1) _ rfl HO4.out ⟨w3.heap.size, 0, none⟩ (.int .i64 x0) (by simp [Act.eval]) hx4 rfl (by omega) HB4.out.size ?_; intro v6 w6 ho6 hg6; have HB6 := hid (below_app HB4.out HO4.out hg6 (Nat.le_refl _) HB4.out.size); obtain ⟨A6, c6, rfl⟩ := own_slice ho6; have HO6 := hid ho6; clear ho6 hg6))
          all_goals
            go_wp2_with fail
            go_meet
            have h6 := HO6.out
            rw [Nat.sub_add_cancel h0n, ← HOKN.out] at h6
            have h7 := Reads.of_own h6
            refine ⟨A6, c6, by rw [HOKL.out, Nat.sub_add_cancel h0n], ?_, hid (HB3.out.trans (HB6.out.mono HB3.out.size))⟩
            show Hid (Reads _ _ 1 _ _ _)
            rw [nz_len, HOKL.out]
            exact hid h7
      obtain ⟨A5, c5, rfl, HR5, HB5⟩ := hcut
      obtain ⟨m, hm⟩ : ∃ m, m = OK.length := ⟨_, rfl⟩
      have hmb := HOKB.out
      have hr5 := HR5.out
      have hlv := HLV.out
      rw [← hm] at hmb hlv ⊢
      have hmn : m ≤ 1000000 := by omega
      have hnl : (nz OK).length = m := by rw [nz_len, hm]
      have HM := hid hm; have HLV2 := hid hlv; have HNL := hid hnl
      have HWO := hid fun (u : World) (v : Value) (nn : Nat) (xs : List Value) (h : u.ownsRow wc.heap.size 3 1 v nn xs) => own_base h (Nat.le_trans HB1.out.size HB5.out.size)
      clear hm hmb hr5 hlv hnl HLV HOKB M3 M4 HNG HND HKR HKL HB3 HO3
      go_wp2_with fail
      go_loopw [6, 7] (fun vv kv wr => ∃ k : Nat, k ≤ m ∧ kv = .int .i64 k ∧ Hid (wr.ownsRow wc.heap.size 3 1 vv (dn l f OK k).length (ints (nz (dn l f OK k)))) ∧ Hid (Below wc.heap.size wc wr)) (fun _ kv _ => m - (intOf kv).toNat)
      case atStart => exact ⟨0, by omega, rfl, World.ownsRow_nil _ _ _ _, Below.refl _ _⟩
      case round =>
        obtain ⟨k, hk, rfl, hO, hB⟩ := hrel
        obtain ⟨A6, c6, rfl⟩ := own_slice hO.out
        by_cases hkm : k < m
        · have hb2 := HB5.out.trans (hB.out.mono HB5.out.size)
          have cc := HC0.out wr hb2
          have hkl : k < OK.length := by rw [← HM.out]; exact hkm
          obtain ⟨b5, o5, rfl, hb5, hc5⟩ := HR5.out.at (by rw [HNL.out]; omega)
          have p5 := (hB.out.cell (p := ⟨b5, o5 + k, none⟩) hb5).trans (hc5 k (by rw [HNL.out]; exact hkm))
          rw [nth_nz hkl, List.getD_eq_getElem?_getD, List.getElem?_eq_getElem hkl, Option.getD_some] at p5
          have hmem := HMM.out OK[k] (List.getElem_mem hkl)
          have hdl := dn_le (l := l) (f := f) hkl
          rw [← HM.out, ← HLV2.out] at hdl
          have hds := dn_s (l := l) (f := f) hkl
          have hlb := HLEN.out
          generalize OK[k] = x at p5 hmem hdl hds
          have hrec := HIH.out x hmem wr.drew (HW.out _ hb2).drew
          generalize dn l f OK k = D0 at hO hdl hds ⊢
          generalize lvs l f (x : Int) = E0 at hdl hds hrec
          have hO2 := hO.out
          have HDS := hid hds; have HREC := hid hrec; have HO2 := hid hO2; have HDL := hid hdl; have HB := hid hB.out
          have g0 : (k : Int) < (m : Int) := by omega
          have g3 : D0.length + E0.length ≤ 1000000000 := by omega
          clear hmem hds hrec hdl hO2 hO hc5 hb5 hkl hB hb2
          go_wp2_with fail
          have HNX := hid fun (w7 : World) (v4 : Value) (w4 : World) (hb7 : Below wr.heap.size wr w7) (A7 : Option Addr) (c7 : Nat) (ho4 : w4.ownsRow wc.heap.size 3 1 v4 (D0.length + E0.length) (ints (nz D0 ++ nz E0))) (hg4 : w7.grownBy w4 (Value.slice A6 D0.length c6).ownBlock) =>
            show w4.ownsRow wc.heap.size 3 1 v4 (dn l f OK (k + 1)).length (ints (nz (dn l f OK (k + 1)))) ∧ Below wc.heap.size wc w4 from by
              rw [HDS.out, nz_app, List.length_append]
              exact ⟨ho4, below_app (HB.out.trans (hb7.mono HB.out.size)) (own_keep HO2.out hb7) hg4 (Nat.le_refl _) (Nat.le_trans HB.out.size hb7.size)⟩
          go_region_law (first
            | (refine step_rd rfl (.tmp 50) (.tmp 56) Try.underlying38 Try.infoInt rfl (by decide) rfl wc.heap.size _ D0.length (nz D0) rfl (own_keep HO2.out HB7.out) A7 E0.length c7 w7.heap.size (nz E0) (by simp [Act.eval]) (nz_len _) HO7.out (by omega) (Nat.le_trans HB.out.size HB7.out.size) ?_; intro v4 w4 ho4 hg4; have HO4 := hid (HNX.out w7 v4 w4 HB7.out A7 c7 ho4 hg4); obtain ⟨A8, c8, rfl⟩ := own_slice ho4; clear ho4 hg4)
            | (go_simp; go_at_call 69; refine (HREC.out).mono ?_; rintro e w7 ⟨v7, rfl, ho7, hb7⟩; obtain ⟨A7, c7, rfl⟩ := own_slice ho7; have HO7 := hid (show Rd w7 w7.heap.size A7 (nz E0) from by unfold Rd; rw [nz_len]; exact Reads.of_own ho7); have HB7 := hid ((Below.refl _ _).drew.trans hb7); clear ho7 hb7))
          all_goals
            go_wp2_with fail
            go_roundw
            case rel => exact ⟨k + 1, by omega, by go_num, HO4.out.1, HO4.out.2⟩
            case measure => simp [intOf]; omega
        · obtain rfl : m = k := by omega
          have g0 : decide (m < m) = false := by simp
          go_wp2_with fail
          go_ret
          exact ⟨_, rfl, by rw [HLV2.out]; exact HWO.out _ _ _ _ hO.out, HW.out _ (HB5.out.trans (hB.out.mono HB5.out.size))⟩
end Go.Proofs.Ytddbnggficlcfaa

/- ostraconref02.Mark, groups.Line, ostraconref02.Line. -/
namespace Go.Proofs.Ytddbnggficlcfaa
open Go.RowKit Go.Shelf
set_option maxRecDepth 100000 in
set_option maxHeartbeats 1000000 in
theorem refMark_any (n : Nd) (w : World) :
    Calls Try.prog 70 #[.agg #[.int .i64 n.kind, .int .i64 n.depth, .int .i64 n.sign, .int .i64 n.turn, .bool n.mir, .int .i64 n.state, .int .i64 n.mn, .int .i64 n.mx]] w fun e w' =>
      e = .returned (.agg #[.int .i64 (mkOf n).sign, .int .i64 (mkOf n).state, .int .i64 (mkOf n).mn, .int .i64 (mkOf n).mx]) ∧ Below w.heap.size w w' := by
  by_cases h : n.kind = 6
  · have e1 : (n.kind == 6) = true := by simp [h]
    have hm : mkOf n = ⟨-1, 0, n.mn, n.mx⟩ := if_pos h
    rw [hm]
    clear hm h
    go_enter Try.func70, Try.ntmps70
    go_wp2_with fail
    exact bodyPost_ret (v := .agg #[.int .i64 (-1), .int .i64 0, .int .i64 n.mn, .int .i64 n.mx]) (by simp [results, Try.results70, go_sem]) rfl ⟨rfl, ((Below.refl _ _).alloc (Nat.le_refl _) _).alloc (by simp) _⟩
  · have e1 : (n.kind == 6) = false := by simp [h]
    have hm : mkOf n = ⟨n.sign, n.state, 0, 0⟩ := if_neg h
    rw [hm]
    clear hm h
    go_enter Try.func70, Try.ntmps70
    go_wp2_with fail
    exact bodyPost_ret (v := .agg #[.int .i64 n.sign, .int .i64 n.state, .int .i64 0, .int .i64 0]) (by simp [results, Try.results70, go_sem]) rfl ⟨rfl, ((Below.refl _ _).alloc (Nat.le_refl _) _).alloc (by simp) _⟩
/-- A function that answers marks and an error. -/
def MksPost (E : Int) (L : List Mk) (w : World) (e : Ending) (w' : World) : Prop := ∃ v, e = .returned (.tuple #[v, .int .i64 E]) ∧ w'.ownsRow w.heap.size 70 4 v L.length (flatM L) ∧ Below w.heap.size w w'
noncomputable def linL (P : Int) (ss : List Sg) (l : List Nd) : List Mk := if chkE P ss l = 0 then marks l else []
theorem linL_bad {P : Int} {ss : List Sg} {l : List Nd} (h : chkE P ss l ≠ 0) : linL P ss l = [] := if_neg h
theorem linL_ok {P : Int} {ss : List Sg} {l : List Nd} (h : chkE P ss l = 0) : linL P ss l = marks l := if_pos h
set_option maxRecDepth 100000 in
set_option maxHeartbeats 4000000 in
theorem lineE_any (P : Int) (ss : List Sg) (l : List Nd) (hN : ss.length ≤ 1000000) (hv : ∀ s ∈ ss, s.vals.length ≤ 1000000 ∧ s.vals.length ≤ s.vc) (hn : l.length ≤ 1000000) (A A2 : Option Addr) (c c2 : Nat) (w : World) (rs : Sgs w w.heap.size A ss) (rn : Nds w w.heap.size A2 l) :
    Calls Try.prog 28 #[.agg #[.int .i64 P, .slice A ss.length c], .agg #[.slice A2 l.length c2]] w (MksPost (chkE P ss l) (linL P ss l) w) := by
  obtain ⟨w1, hw1⟩ : ∃ w1, w1 = (w.alloc (.cells #[.int .i64 P, .slice A ss.length c] 24)).alloc (.cells #[.slice A2 l.length c2] 27) := ⟨_, rfl⟩
  have hb1 : Below w.heap.size w w1 := by rw [hw1]; exact ((Below.refl _ _).alloc (Nat.le_refl _) _).alloc (by simp) _
  have hz1 : w1.heap.size = w.heap.size + 2 := by rw [hw1]; simp
  have c0 : w1.cell? ⟨w.heap.size, 0, none⟩ = some (.int .i64 P) := by rw [hw1]; exact cell_old (cell_here rfl rfl)
  have c1 : w1.cell? ⟨w.heap.size, 1, none⟩ = some (.slice A ss.length c) := by rw [hw1]; exact cell_old (cell_here rfl rfl)
  have c3 : w1.cell? ⟨w.heap.size + 1, 0, none⟩ = some (.slice A2 l.length c2) := by rw [hw1]; exact cell_here (by simp) rfl
  have HCK := hid (check_any P ss l hN hv hn A A2 c c2 w1 ((rs.below hb1).more (by omega)) ((rn.below hb1).more (by omega)))
  have HLI := hid fun (h : chkE P ss l = 0) (W : World) (hb : Below w.heap.size w W) => line_any l hn (good_hon h) A2 c2 W.heap.size W (Nat.le_refl _) ((rn.below hb).more hb.size)
  have m1 := linL_bad (P := P) (ss := ss) (l := l); have m2 := linL_ok (P := P) (ss := ss) (l := l)
  generalize linL P ss l = L at m1 m2 ⊢
  generalize chkE P ss l = CE at HCK HLI m1 m2
  have M1 := hid m1; have M2 := hid m2
  clear m1 m2
  generalize ss.length = N at HCK c1 hw1 ⊢
  generalize l.length = n at HCK HLI c3 hw1 ⊢
  have HW1 := hid hw1; have HB1 := hid hb1
  have hzz : w.heap.size + 1 < w1.heap.size := by omega
  have HC3 := hid fun (wr : World) (h : Below w1.heap.size w1 wr) => (h.cell (p := ⟨w.heap.size + 1, 0, none⟩) hzz).trans c3
  have HW : Hid (∀ wr, Below w1.heap.size w1 wr → Below w.heap.size w wr) := fun wr h => hb1.trans (h.mono (by omega))
  clear hw1 hb1 hz1 rs rn hv hN
  go_enter Try.func28, Try.ntmps28
  go_upto_region 1 with (fail)
  rw [← HW1.out]
  clear HW1
  obtain ⟨B0, hB0⟩ : ∃ B0, B0 = w.heap.size := ⟨_, rfl⟩
  obtain ⟨B1, hB1⟩ : ∃ B1, B1 = B0 + 1 := ⟨_, rfl⟩
  rw [← hB0, ← hB1] at c3 HC3 hzz
  rw [← hB0] at c0 c1 ⊢
  rw [← hB1]
  clear hB0 hB1
  by_cases hCE : CE = 0
  · have f0 : (CE != 0) = false := by simp [hCE]
    have x2 := M2.out hCE
    replace HLI := hid (HLI.out hCE)
    have X2 := hid x2
    clear M1 M2 x2
    subst hCE
    go_wp2_with (first | (go_at_call 19; refine HCK.out.mono ?_; rintro e w2 ⟨rfl, hb2⟩; have p2 := HC3.out w2 hb2; have HC2 := hid (HLI.out w2 (HW.out _ hb2)); have HB2 := hid hb2; clear hb2 HCK c0 c1 c3) | (go_at_call 68; refine HC2.out.mono ?_; rintro e w5 ⟨v5, rfl, ho5, hb5⟩; have HO5 := hid (own_base ho5 (HW.out _ HB2.out).size); have HB5 := hid (HW.out _ (HB2.out.trans (hb5.mono HB2.out.size))); clear ho5 hb5))
    go_ret2
    exact ⟨_, rfl, by rw [X2.out]; exact HO5.out, HB5.out⟩
  · have f0 : (CE != 0) = true := by simp [hCE]
    have x2 := M1.out hCE
    have X2 := hid x2
    clear x2
    clear M1 M2 hCE
    go_wp2_with (first | (go_at_call 19; refine HCK.out.mono ?_; rintro e w2 ⟨rfl, hb2⟩; have HB2 := hid hb2; clear hb2 HCK c0 c1 c3))
    go_ret2
    exact ⟨.slice none 0 0, rfl, by rw [X2.out]; exact World.ownsRow_nil _ _ _ _, HW.out _ HB2.out⟩
theorem lvs_mem {l : List Nd} : ∀ (f : Nat) (node : Int), -1 ≤ node → node < l.length → ∀ x ∈ lvs l f node, x < l.length
  | 0, _, _, _, x, h => by unfold lvs at h; cases h
  | f + 1, node, h1, h2, x, h => by
    unfold lvs at h
    split at h
    · rename_i h3
      obtain rfl := List.mem_singleton.1 h
      omega
    · obtain ⟨k, hk, hx⟩ := List.mem_flatMap.1 h
      have := kidsOf_mem h1 h2 (ordK_mem hk)
      exact lvs_mem f k (by omega) (by omega) x hx
theorem leaves_lt {l : List Nd} {x : Nat} (h : x ∈ leaves l) : x < l.length := lvs_mem _ _ (by omega) (by omega) x h
theorem leaves_len (l : List Nd) : (leaves l).length ≤ l.length := lvs_all _
set_option maxRecDepth 100000 in
set_option maxHeartbeats 8000000 in
theorem refLine_any (P : Int) (ss : List Sg) (l : List Nd) (hN : ss.length ≤ 1000000) (hv : ∀ s ∈ ss, s.vals.length ≤ 1000000) (hn : l.length ≤ 1000000) (A A2 : Option Addr) (c c2 : Nat) (w : World) (rs : Sgs w w.heap.size A ss) (rn : Nds w w.heap.size A2 l) :
    Calls Try.prog 29 #[.agg #[.int .i64 P, .slice A ss.length c], .agg #[.slice A2 l.length c2]] w (MksPost (chkE P ss l) (linL P ss l) w) := by
  obtain ⟨w1, hw1⟩ : ∃ w1, w1 = (w.alloc (.cells #[.int .i64 P, .slice A ss.length c] 24)).alloc (.cells #[.slice A2 l.length c2] 27) := ⟨_, rfl⟩
  have hb1 : Below w.heap.size w w1 := by rw [hw1]; exact ((Below.refl _ _).alloc (Nat.le_refl _) _).alloc (by simp) _
  have hz1 : w1.heap.size = w.heap.size + 2 := by rw [hw1]; simp
  have c0 : w1.cell? ⟨w.heap.size, 0, none⟩ = some (.int .i64 P) := by rw [hw1]; exact cell_old (cell_here rfl rfl)
  have c1 : w1.cell? ⟨w.heap.size, 1, none⟩ = some (.slice A ss.length c) := by rw [hw1]; exact cell_old (cell_here rfl rfl)
  have c3 : w1.cell? ⟨w.heap.size + 1, 0, none⟩ = some (.slice A2 l.length c2) := by rw [hw1]; exact cell_here (by simp) rfl
  have HCK := hid (refCheck_any P ss l hN hv hn A A2 c c2 w1 ((rs.below hb1).more (by omega)) ((rn.below hb1).more (by omega)))
  have HLV := hid fun (h : chkE P ss l = 0) (W : World) (hb : Below w.heap.size w W) => refLeaves_any l (good_of (chkE_zero h).2.2.1).wf (good_of (chkE_zero h).2.2.1).deps hn (good_hon h) A2 c2 (l.length + 1) (-1) W (by omega) (by omega) (by omega) ((rn.below hb).more hb.size)
  have m1 := linL_bad (P := P) (ss := ss) (l := l); have m2 := linL_ok (P := P) (ss := ss) (l := l)
  have hle := leaves_len l
  have hlm := fun x (h : x ∈ leaves l) => leaves_lt h
  have hmk : marks l = (leaves l).map (mkAt l) := rfl
  rw [hmk] at m2
  unfold leaves at hle hlm m2
  generalize lvs l (l.length + 1) (-1) = LV at HLV hle hlm m2
  generalize linL P ss l = L at m1 m2 ⊢
  generalize chkE P ss l = CE at HCK HLV m1 m2
  have M1 := hid m1; have M2 := hid m2; have HLM := hid hlm
  clear m1 m2 hmk hlm
  generalize ss.length = N at HCK c1 hw1 ⊢
  obtain ⟨n, hnn⟩ : ∃ n, n = l.length := ⟨_, rfl⟩
  rw [← hnn] at HCK HLV c3 hw1 hle hn ⊢
  have HW1 := hid hw1; have HB1 := hid hb1; have HR := hid rn; have HNN := hid hnn
  have hzz : w.heap.size + 1 < w1.heap.size := by omega
  have HC3 := hid fun (wr : World) (h : Below w1.heap.size w1 wr) => (h.cell (p := ⟨w.heap.size + 1, 0, none⟩) hzz).trans c3
  have HW : Hid (∀ wr, Below w1.heap.size w1 wr → Below w.heap.size w wr) := fun wr h => hb1.trans (h.mono (by omega))
  clear hw1 hb1 hz1 rs rn hv hN hnn
  go_enter Try.func29, Try.ntmps29
  go_upto_region 1 with (fail)
  rw [← HW1.out]
  clear HW1
  obtain ⟨B0, hB0⟩ : ∃ B0, B0 = w.heap.size := ⟨_, rfl⟩
  obtain ⟨B1, hB1⟩ : ∃ B1, B1 = B0 + 1 := ⟨_, rfl⟩
  rw [← hB0, ← hB1] at c3 HC3 hzz
  rw [← hB0] at c0 c1 ⊢
  rw [← hB1]
  clear hB0 hB1
  by_cases hCE : CE = 0
  · have f0 : (CE != 0) = false := by simp [hCE]
    have x2 := M2.out hCE
    replace HLV := hid (HLV.out hCE)
    have X2 := hid x2
    clear M1 M2 x2
    subst hCE
    go_wp2_with (first | (go_at_call 20; refine HCK.out.mono ?_; rintro e w2 ⟨rfl, hb2⟩; have p2 := HC3.out w2 hb2; have HC2 := hid (HLV.out w2 (HW.out _ hb2)); have HB2 := hid hb2; clear hb2 HCK c0 c1 c3) | (go_at_call 69; refine HC2.out.mono ?_; rintro e w5 ⟨v5, rfl, ho5, hb5⟩; obtain ⟨A5, c5, rfl⟩ := own_slice ho5; have HL5 := hid (show Rd w5 w5.heap.size A5 (nz LV) from by unfold Rd; rw [nz_len]; exact Reads.of_own ho5); have HB5 := hid (HB2.out.trans (hb5.mono HB2.out.size)); clear ho5 hb5))
    obtain ⟨m, hm⟩ : ∃ m, m = LV.length := ⟨_, rfl⟩
    have hnl : (nz LV).length = m := by rw [nz_len, hm]
    rw [← hm] at hle ⊢
    have HM := hid hm; have HNL := hid hnl
    clear hm hnl HC2 p2
    go_loopw [7, 9] (fun vv kv wr => ∃ k : Nat, k ≤ m ∧ kv = .int .i64 k ∧ Hid (wr.ownsRow w5.heap.size 70 4 vv k (flatM ((LV.take k).map (mkAt l)))) ∧ Hid (Below w5.heap.size w5 wr)) (fun _ kv _ => m - (intOf kv).toNat)
    case atStart => exact ⟨0, by omega, rfl, World.ownsRow_nil _ _ _ _, Below.refl _ _⟩
    case round =>
      obtain ⟨k, hk, rfl, hO, hB⟩ := hrel
      by_cases hkm : k < m
      · obtain ⟨A6, c6, rfl⟩ := own_slice hO.out
        have hb2 := HB5.out.trans (hB.out.mono HB5.out.size)
        have p2 := HC3.out wr hb2
        have hkl : k < LV.length := by rw [← HM.out]; exact hkm
        obtain ⟨b5, o5, rfl, hb5, hc5⟩ := HL5.out.at (by rw [HNL.out]; omega)
        have p5 := (hB.out.cell (p := ⟨b5, o5 + k, none⟩) hb5).trans (hc5 k (by rw [HNL.out]; exact hkm))
        rw [nth_nz hkl, List.getD_eq_getElem?_getD, List.getElem?_eq_getElem hkl, Option.getD_some] at p5
        have hx := HLM.out LV[k] (List.getElem_mem hkl)
        have hst : (LV.take (k + 1)).map (mkAt l) = (LV.take k).map (mkAt l) ++ [mkAt l LV[k]] := by rw [List.take_add_one, List.getElem?_eq_getElem hkl, Option.toList_some, List.map_append]; rfl
        generalize LV[k] = x at p5 hx hst
        obtain ⟨b, o, rfl, hbB, hc⟩ := HR.out.at (by omega)
        have hnd := (hc x hx).below (HW.out _ hb2) hbB
        have k1 := hnd.kind; have k2 := hnd.depth; have k3 := hnd.sign; have k4 := hnd.turn; have k5 := hnd.mir; have k6 := hnd.state; have k7 := hnd.mn; have k8 := hnd.mx
        have hma := fun w3 => refMark_any l[x] w3
        rw [← mkAt_at hx] at hma
        generalize mkAt l x = mk at hma hst
        generalize l[x] = nd at k1 k2 k3 k4 k5 k6 k7 k8 hma
        have hxn : x < n := by rw [HNN.out]; exact hx
        have hxn2 : (x : Int) < (n : Int) := by omega
        have g0 : (k : Int) < (m : Int) := by omega
        generalize (LV.take k).map (mkAt l) = D0 at hst hO
        have hO2 := hO.out
        have HMA := hid hma; have HST := hid hst; have HO2 := hid hO2; have HB := hid hB.out
        clear hma hst hO hO2 hnd hc hx hc5 hb5 hkl hb2 hB
        go_wp2_with fail
        have HNX := hid fun (w3 : World) (v4 : Value) (w4 : World) (hb3 : Below wr.heap.size wr w3) (X : Obj) (ho4 : w4.ownsRow w5.heap.size 70 4 v4 (k + 1) (flatM (D0 ++ [mk]))) (hg4 : (w3.alloc X).grownBy w4 (Value.slice A6 k c6).ownBlock) =>
          show w4.ownsRow w5.heap.size 70 4 v4 (k + 1) (flatM ((LV.take (k + 1)).map (mkAt l))) ∧ Below w5.heap.size w5 w4 from by
            rw [HST.out]
            exact ⟨ho4, below_app (HB.out.trans ((hb3.alloc hb3.size _).mono HB.out.size)) (own_keep HO2.out (hb3.alloc hb3.size _)) hg4 (Nat.le_refl _) (Nat.le_trans HB.out.size (Nat.le_trans hb3.size (by simp)))⟩
        go_region_law (first
          | (refine step_mk rfl (.tmp 24) (.tmp 34) rfl w5.heap.size _ _ D0 rfl (own_keep HO2.out (HB3.out.alloc HB3.out.size _)) ⟨w3.heap.size, 0, none⟩ mk (by simp [Act.eval]) (cell_news w3 mk.cells 70) (by omega) (Nat.le_trans HB.out.size (Nat.le_trans HB3.out.size (by simp))) ?_; intro v4 w4 ho4 hg4; have HO4 := hid (HNX.out w3 v4 w4 HB3.out _ ho4 hg4); obtain ⟨A8, c8, rfl⟩ := own_slice ho4; clear ho4 hg4)
          | (go_simp; go_at_call 70; refine (HMA.out _).mono ?_; rintro e w3 ⟨rfl, hb3⟩; have HB3 := hid ((Below.refl _ _).drew.trans hb3); clear hb3))
        all_goals
          go_wp2_with fail
          go_roundw
          case rel => exact ⟨k + 1, by omega, by go_num, HO4.out.1, HO4.out.2⟩
          case measure => simp [intOf]; omega
      · obtain rfl : m = k := by omega
        have g0 : decide (m < m) = false := by simp
        have hfull : LV.take m = LV := by rw [HM.out, List.take_length]
        have hO2 := hO.out
        rw [hfull] at hO2
        have HO2 := hid (own_base hO2 (HW.out _ HB5.out).size)
        have HF := hid hfull
        clear hO hO2 hfull
        go_wp2_with fail
        go_ret2
        exact ⟨_, rfl, by rw [X2.out, List.length_map, ← HM.out]; exact HO2.out, HW.out _ (HB5.out.trans (hB.out.mono HB5.out.size))⟩
  · have f0 : (CE != 0) = true := by simp [hCE]
    have x2 := M1.out hCE
    have X2 := hid x2
    clear x2
    clear M1 M2 hCE
    go_wp2_with (first | (go_at_call 20; refine HCK.out.mono ?_; rintro e w2 ⟨rfl, hb2⟩; have HB2 := hid hb2; clear hb2 HCK c0 c1 c3))
    go_ret2
    exact ⟨.slice none 0 0, rfl, by rw [X2.out]; exact World.ownsRow_nil _ _ _ _, HW.out _ HB2.out⟩
end Go.Proofs.Ytddbnggficlcfaa
