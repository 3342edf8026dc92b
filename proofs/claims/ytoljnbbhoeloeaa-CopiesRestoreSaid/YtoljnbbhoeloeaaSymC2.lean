/- WALK: symMerge: the two parts of more. -/
import Derived.Test.YtoljnbbhoeloeaaSwapW
namespace Go.Proofs.Ytoljnbbhoeloeaa
open Go.RowKit Go.Shelf Go.Lib Go.Sort
theorem keep_size2 {a b : Nat} {d d' : Array Vb} (h : Merged a b d d') : d'.size = d.size := h.1.size
set_option maxHeartbeats 16000000 in
set_option maxRecDepth 1000000 in
theorem symMerge_c2 (blk off cap a m b : Nat) (d0 d : Array Vb) (w0 w : World) (R : RowK encV 3 w0 blk off d0) (hC : CmpLays Try.prog 50 #[] encV 3 cfV blk off d0.size w0) (hs : d0.size = d.size) (S : SWK encV 3 w0 blk off d w) (ham : a < m) (hmb : m < b) (hb : b ≤ d.size) (hsz : d.size < 4611686018427387904) (hL : Srt a m d) (hR : Srt m b d) (N : Nat) (hN : b - a ≤ N + 1) (HIH : Hid (∀ (x y z : Nat) (dk : Array Vb) (W : World), dk.size = d.size → SWK encV 3 w0 blk off dk W → z - x ≤ N → x < y → y < z → z ≤ d.size → Srt x y dk → Srt y z dk → Calls Try.prog 92 #[.slice (some ⟨blk, off, none⟩) d.size cap, .int .i64 x, .int .i64 y, .int .i64 z, .func (.func 50) #[] #[]] W fun e w' => e = .returned (.tuple #[]) ∧ ∃ d', Merged x z dk d' ∧ SWK encV 3 w0 blk off d' w')) (HROT : Hid (∀ (x y z : Nat) (dk : Array Vb) (W : World), dk.size = d.size → SWK encV 3 w0 blk off dk W → x < y → y < z → z ≤ d.size → Calls Try.prog 93 #[.slice (some ⟨blk, off, none⟩) d.size cap, .int .i64 x, .int .i64 y, .int .i64 z, .func (.func 50) #[] #[]] W fun e w' => e = .returned (.tuple #[]) ∧ ∃ d', Rot x y z dk d' ∧ SWK encV 3 w0 blk off d' w')) (hA : ¬ m = a + 1) (hB : ¬ b = m + 1) (hmm : ¬ (a + b) / 2 < m) :
    Calls Try.prog 92 #[.slice (some ⟨blk, off, none⟩) d.size cap, .int .i64 a, .int .i64 m, .int .i64 b, .func (.func 50) #[] #[]] w fun e w' => e = .returned (.tuple #[]) ∧ ∃ d', Merged a b d d' ∧ SWK encV 3 w0 blk off d' w' := by
  have HC : Aside _ := hC
  have S0 : Aside (SWK encV 3 w0 blk off d w) := S
  have mixed : Try.prog.follows .mixedOrders = true := by kernel_rfl
  have HL := hid hL; have HR := hid hR
  clear hC S hL hR
  have c1 : IntKind.i64.wrap ((m : Int) - a) = ((m - a : Nat) : Int) := by rw [IntKind.wrap_i64]; omega
  have c1n : (((m - a : Nat) : Int) == 1) = false := by simp; omega
  have c2 : IntKind.i64.wrap ((b : Int) - m) = ((b - m : Nat) : Int) := by rw [IntKind.wrap_i64]; omega
  have c2n : (((b - m : Nat) : Int) == 1) = false := by simp; omega
  obtain ⟨mid, hmid⟩ : ∃ mid, mid = (a + b) / 2 := ⟨_, rfl⟩
  obtain ⟨n, hn⟩ : ∃ n, n = mid + m := ⟨_, rfl⟩
  obtain ⟨lo, hlo⟩ : ∃ lo, lo = if mid < m then n - b else a := ⟨_, rfl⟩
  obtain ⟨hi, hhi⟩ : ∃ hi, hi = if mid < m then mid else m := ⟨_, rfl⟩
  have BD := hid (show Bds a m b mid lo hi n from ⟨by omega, by omega, hmid, hn, hlo, hhi⟩)
  obtain ⟨g1, g2, g3, g4, g5, g6, g7, g8, g9, g10, g11, g12⟩ := BD.out.le
  clear g7
  obtain ⟨p, hp⟩ : ∃ p, p = n - 1 := ⟨_, rfl⟩
  have midz : ((a : Int) + (b : Int)) / 2 = (mid : Int) := by omega
  have nz : ((a : Int) + (b : Int)) / 2 + (m : Int) = (n : Int) := by omega
  have pz : (n : Int) - 1 = (p : Int) := by omega
  have Hnz := hid nz
  have Hpz := hid pz
  clear nz pz
  rw [← hmid] at hmm
  rw [if_neg hmm] at hlo hhi
  have hhm : hi = m := hhi
  have Hla := hid hlo
  have Hp := hid hp; have Hn := hid hn
  have HF0 := hid (Found.start BD.out d)
  have hbnd : n < 9223372036854775807 ∧ p < n ∧ p + 1 = n := by omega
  have Hmz := hid midz
  clear hlo hhi hmid hn hp hA hB g11 g12 midz
  have Hhm := hid hhm
  clear hhm
  have hmz : ¬ ((a : Int) + (b : Int)) / 2 < (m : Int) := by rw [Hmz.out]; omega
  go_enter Try.func92, Try.ntmps92
  go_wp2_with fail
  rw [Hnz.out]
  rw [Hpz.out]
  go_loopw [20, 21] (fun u v wr => ∃ (s r : Nat), u = .int .i64 s ∧ v = .int .i64 r ∧ lo ≤ s ∧ s ≤ r ∧ r ≤ hi ∧ Aside (SWK encV 3 w0 blk off d wr) ∧ Hid (Found a m b lo hi n s r d)) (fun u v _ => (intOf v).toNat - (intOf u).toNat)
  case atStart => exact ⟨lo, hi, by rw [Hla.out], by rw [Hhm.out], Nat.le_refl _, g2, Nat.le_refl _, S0, HF0.out⟩
  case round =>
    clear S0
    clear c1 c1n c2 c2n hmz
    obtain ⟨s, r, rfl, rfl, hs1, hs2, hs3, S1, HF⟩ := hrel
    by_cases hsr : s < r
    · have hsrz : (s : Int) < (r : Int) := by omega
      go_wp2_with fail
      obtain ⟨c, hc⟩ : ∃ c, c = (s + r) / 2 := ⟨_, rfl⟩
      have cz : (((s : Nat) : Int) + ((r : Nat) : Int)) / 2 = ((c : Nat) : Int) := by omega
      rw [cz]
      have clo : s ≤ c := by omega
      have chi : c < r := by omega
      have Hcq := hid hc
      clear cz hc
      obtain ⟨q, hq⟩ : ∃ q, q = p - c := ⟨_, rfl⟩
      have hqb : q + c = p := by omega
      have hqz : IntKind.i64.wrap ((p : Int) - (c : Int)) = (q : Int) := by rw [IntKind.wrap_i64]; omega
      have hqe : n - 1 - (s + r) / 2 = q := by have := Hcq.out; omega
      by_cases hv : kv d[q]! < kv d[c]!
      · have hn : Hid (Found a m b lo hi n s c d) := by have hc := Hcq.out; rw [hc]; exact HF.out.down BD.out HL.out HR.out hsr (by rw [hqe, ← hc]; exact hv)
        clear hqe hq
        have ea7 : ((q : Int)).toNat = q := by omega
        have pa7 : (0 : Int) ≤ (q : Int) := by omega
        have ba7 : (q : Int) < (d.size : Int) := by omega
        have ra7 : IntKind.i64.wrap ((q : Int)) = (q : Int) := by rw [IntKind.wrap_i64]; omega
        have ec7 : ((c : Int)).toNat = c := by omega
        have pc7 : (0 : Int) ≤ (c : Int) := by omega
        have bc7 : (c : Int) < (d.size : Int) := by omega
        have rc7 : IntKind.i64.wrap ((c : Int)) = (c : Int) := by rw [IntKind.wrap_i64]; omega
        obtain ⟨x7, hx7⟩ : ∃ x, x = d[q]! := ⟨_, rfl⟩
        obtain ⟨y7, hy7⟩ : ∃ x, x = d[c]! := ⟨_, rfl⟩
        have l7a := cells3g S1.out R (by omega) (q) (by omega)
        have l7b := cells3g S1.out R (by omega) (c) (by omega)
        rw [← hx7] at l7a
        rw [← hy7] at l7b
        obtain ⟨la71, la72, la73⟩ := l7a
        obtain ⟨lb71, lb72, lb73⟩ := l7b
        have hc7 := S1.out.cmp HC.out (by omega) x7 y7
        have hc7' : ∀ n os, Calls Try.prog 50 #[.agg #[.int .i64 x7.1.1, .int .i64 x7.1.2.1, .slice x7.1.2.2.1 x7.1.2.2.2.1 x7.1.2.2.2.2.1], .agg #[.int .i64 y7.1.1, .int .i64 y7.1.2.1, .slice y7.1.2.2.1 y7.1.2.2.2.1 y7.1.2.2.2.2.1]] (grow (wr.drewN n) os) fun e w' => e = .returned (.int .i64 (cfV x7 y7)) ∧ ∃ q os', w' = grow ((grow (wr.drewN n) os).drewN q) os' := fun n os => hc7 n os
        have HC7 := hid hc7'
        have hv7 : cfV x7 y7 < 0 := by rw [hx7, hy7]; have := hv; unfold cfV; omega
        have hd7 : decide (cfV x7 y7 < 0) = true := decide_eq_true hv7
        clear hx7 hy7 hc7 hc7'
        go_wp2_with fail
        go_quiet_grown (first | (go_at_call 50; refine Calls.grown_of (HC7.out _ _)) | (go_at_fn 50; refine Calls.grown_of (HC7.out _ _)))
        have S2 : Aside (SWK encV 3 w0 blk off d (grow (wr.drewN nq) osq)) := S1.out.grown nq osq
        clear la71 la72 la73 lb71 lb72 lb73 HC7 S1
        generalize grow (wr.drewN nq) osq = w2 at S2 ⊢
        clear nq osq
        go_wp2_with fail
        go_roundw
        case rel => exact ⟨s, c, rfl, rfl, by omega, by omega, by omega, S2, hn⟩
        case measure => simp [intOf]; omega
      · have hn : Hid (Found a m b lo hi n (c + 1) r d) := by have hc := Hcq.out; rw [hc]; exact HF.out.up BD.out HL.out HR.out hsr (by rw [hqe, ← hc]; exact hv)
        have rh : IntKind.i64.wrap ((c : Int) + 1) = (c : Int) + 1 := by rw [IntKind.wrap_i64]; omega
        clear hqe hq
        have ea8 : ((q : Int)).toNat = q := by omega
        have pa8 : (0 : Int) ≤ (q : Int) := by omega
        have ba8 : (q : Int) < (d.size : Int) := by omega
        have ra8 : IntKind.i64.wrap ((q : Int)) = (q : Int) := by rw [IntKind.wrap_i64]; omega
        have ec8 : ((c : Int)).toNat = c := by omega
        have pc8 : (0 : Int) ≤ (c : Int) := by omega
        have bc8 : (c : Int) < (d.size : Int) := by omega
        have rc8 : IntKind.i64.wrap ((c : Int)) = (c : Int) := by rw [IntKind.wrap_i64]; omega
        obtain ⟨x8, hx8⟩ : ∃ x, x = d[q]! := ⟨_, rfl⟩
        obtain ⟨y8, hy8⟩ : ∃ x, x = d[c]! := ⟨_, rfl⟩
        have l8a := cells3g S1.out R (by omega) (q) (by omega)
        have l8b := cells3g S1.out R (by omega) (c) (by omega)
        rw [← hx8] at l8a
        rw [← hy8] at l8b
        obtain ⟨la81, la82, la83⟩ := l8a
        obtain ⟨lb81, lb82, lb83⟩ := l8b
        have hc8 := S1.out.cmp HC.out (by omega) x8 y8
        have hc8' : ∀ n os, Calls Try.prog 50 #[.agg #[.int .i64 x8.1.1, .int .i64 x8.1.2.1, .slice x8.1.2.2.1 x8.1.2.2.2.1 x8.1.2.2.2.2.1], .agg #[.int .i64 y8.1.1, .int .i64 y8.1.2.1, .slice y8.1.2.2.1 y8.1.2.2.2.1 y8.1.2.2.2.2.1]] (grow (wr.drewN n) os) fun e w' => e = .returned (.int .i64 (cfV x8 y8)) ∧ ∃ q os', w' = grow ((grow (wr.drewN n) os).drewN q) os' := fun n os => hc8 n os
        have HC8 := hid hc8'
        have hv8 : ¬ cfV x8 y8 < 0 := by rw [hx8, hy8]; have := hv; unfold cfV; omega
        have hd8 : decide (cfV x8 y8 < 0) = false := decide_eq_false hv8
        clear hx8 hy8 hc8 hc8'
        go_wp2_with fail
        go_quiet_grown (first | (go_at_call 50; refine Calls.grown_of (HC8.out _ _)) | (go_at_fn 50; refine Calls.grown_of (HC8.out _ _)))
        have S2 : Aside (SWK encV 3 w0 blk off d (grow (wr.drewN nq) osq)) := S1.out.grown nq osq
        clear la81 la82 la83 lb81 lb82 lb83 HC8 S1
        generalize grow (wr.drewN nq) osq = w2 at S2 ⊢
        clear nq osq
        go_wp2_with fail
        go_roundw
        case rel => exact ⟨c + 1, r, by go_num, rfl, by omega, by omega, by omega, S2, hn⟩
        case measure => simp [intOf]; omega
    · obtain rfl : s = r := by omega
      have hsrz : ¬ (s : Int) < (s : Int) := by omega
      obtain ⟨e, he⟩ : ∃ e, e = n - s := ⟨_, rfl⟩
      have ez : IntKind.i64.wrap ((n : Int) - s) = (e : Int) := by rw [IntKind.wrap_i64]; omega
      have hes := hid he
      have hsum : e + s = mid + m := by have := Hn.out; omega
      have hb1 : m ≤ e ∧ s ≤ m ∧ a ≤ s ∧ s ≤ mid ∧ mid ≤ e ∧ e ≤ b := by have := Hn.out; omega
      obtain ⟨hb1, hb2, hb3, hb4, hb5, hb6⟩ := hb1
      rw [Hmz.out]
      have hcase : (s < m ∧ m < e) ∨ s = m ∨ m = e := by omega
      clear he
      clear hs1 hs2 hs3 g1 g2 g3 g4 g8 g9 g10 hbnd
      have hN1 : mid - a ≤ N := by omega
      have hN2 : b - mid ≤ N := by omega
      rcases (by omega : (s < m ∧ m < e) ∨ ¬ s < m) with ⟨h11, h12⟩ | h11
      all_goals clear hsum hcase
      · rcases (by omega : (a < s ∧ s < mid) ∨ (a < s ∧ ¬ s < mid) ∨ ¬ a < s) with ⟨h21, h22⟩ | ⟨h21, h22⟩ | h21
        · rcases (by omega : (mid < e ∧ e < b) ∨ (mid < e ∧ ¬ e < b) ∨ ¬ mid < e) with ⟨h31, h32⟩ | ⟨h31, h32⟩ | h31
          · have hcx := hid (HROT.out s m e d wr rfl S1.out h11 h12 (by omega))
            go_wp2_with fail
            refine hcx.out.mono ?_
            rintro e' w4 ⟨rfl, d1, hRo, hS⟩
            have HRo := hid hRo; have S7 : Aside _ := hS; clear hRo hS
            have hd1s : d1.size = d.size := HRo.out.1
            obtain ⟨t1, t2, t3, t4, t5, t6, t7, t8, t9, t10⟩ := turned BD.out HF.out HL.out HR.out hb (by rw [← hes.out]; exact HRo.out)
            rw [← hes.out] at t3 t4 t8 t9
            have HT1 := hid t5; have HT3 := hid t6; have HT4 := hid t7; have HT5 := hid t8; have HT6 := hid t9; have HT2 := hid t10
            clear t5 t6 t7 t8 t9 t10
            have hcy := hid (HIH.out a s mid d1 w4 hd1s S7.out (by omega) h21 h22 (by omega) HT3.out HT4.out)
            clear hd1s
            have hd1s : Hid (d1.size = d.size) := HRo.out.1
            go_wp2_with fail
            refine hcy.out.mono ?_
            rintro e' w5 ⟨rfl, d2, hM, hS⟩
            have HM2 := hid hM; have S8 : Aside _ := hS; clear hM hS
            have hcz := hid (HIH.out mid e b d2 w5 ((keep_size2 HM2.out).trans (by first | exact hd1s.out | rfl)) S8.out (by omega) h31 h32 hb (srt_out HM2.out.1 HT5.out (.inr (Nat.le_refl _))) (srt_out HM2.out.1 HT6.out (.inr (by omega))))
            go_wp2_with fail
            refine hcz.out.mono ?_
            rintro e' w6 ⟨rfl, d3, hM, hS⟩
            have HM3 := hid hM; have S9 : Aside _ := hS; clear hM hS
            go_wp2_with fail
            go_end0
            exact ⟨rfl, d3, joined (by omega) (by omega) HT1.out HT2.out HM2.out HM3.out, S9.out⟩
          · have hcx := hid (HROT.out s m e d wr rfl S1.out h11 h12 (by omega))
            go_wp2_with fail
            refine hcx.out.mono ?_
            rintro e' w4 ⟨rfl, d1, hRo, hS⟩
            have HRo := hid hRo; have S7 : Aside _ := hS; clear hRo hS
            have hd1s : d1.size = d.size := HRo.out.1
            obtain ⟨t1, t2, t3, t4, t5, t6, t7, t8, t9, t10⟩ := turned BD.out HF.out HL.out HR.out hb (by rw [← hes.out]; exact HRo.out)
            rw [← hes.out] at t3 t4 t8 t9
            have HT1 := hid t5; have HT3 := hid t6; have HT4 := hid t7; have HT5 := hid t8; have HT6 := hid t9; have HT2 := hid t10
            clear t5 t6 t7 t8 t9 t10
            have hcy := hid (HIH.out a s mid d1 w4 hd1s S7.out (by omega) h21 h22 (by omega) HT3.out HT4.out)
            clear hd1s
            have hd1s : Hid (d1.size = d.size) := HRo.out.1
            go_wp2_with fail
            refine hcy.out.mono ?_
            rintro e' w5 ⟨rfl, d2, hM, hS⟩
            have HM2 := hid hM; have S8 : Aside _ := hS; clear hM hS
            have HM3 := hid (merged_self (srt_out HM2.out.1 HT5.out (.inr (Nat.le_refl _))) (srt_out HM2.out.1 HT6.out (.inr (by omega))) (by omega))
            go_wp2_with fail
            go_end0
            exact ⟨rfl, d2, joined (by omega) (by omega) HT1.out HT2.out HM2.out HM3.out, S8.out⟩
          · have hcx := hid (HROT.out s m e d wr rfl S1.out h11 h12 (by omega))
            go_wp2_with fail
            refine hcx.out.mono ?_
            rintro e' w4 ⟨rfl, d1, hRo, hS⟩
            have HRo := hid hRo; have S7 : Aside _ := hS; clear hRo hS
            have hd1s : d1.size = d.size := HRo.out.1
            obtain ⟨t1, t2, t3, t4, t5, t6, t7, t8, t9, t10⟩ := turned BD.out HF.out HL.out HR.out hb (by rw [← hes.out]; exact HRo.out)
            rw [← hes.out] at t3 t4 t8 t9
            have HT1 := hid t5; have HT3 := hid t6; have HT4 := hid t7; have HT5 := hid t8; have HT6 := hid t9; have HT2 := hid t10
            clear t5 t6 t7 t8 t9 t10
            have hcy := hid (HIH.out a s mid d1 w4 hd1s S7.out (by omega) h21 h22 (by omega) HT3.out HT4.out)
            clear hd1s
            have hd1s : Hid (d1.size = d.size) := HRo.out.1
            go_wp2_with fail
            refine hcy.out.mono ?_
            rintro e' w5 ⟨rfl, d2, hM, hS⟩
            have HM2 := hid hM; have S8 : Aside _ := hS; clear hM hS
            have HM3 := hid (merged_self (srt_out HM2.out.1 HT5.out (.inr (Nat.le_refl _))) (srt_out HM2.out.1 HT6.out (.inr (by omega))) (by omega))
            go_wp2_with fail
            go_end0
            exact ⟨rfl, d2, joined (by omega) (by omega) HT1.out HT2.out HM2.out HM3.out, S8.out⟩
        · rcases (by omega : (mid < e ∧ e < b) ∨ (mid < e ∧ ¬ e < b) ∨ ¬ mid < e) with ⟨h31, h32⟩ | ⟨h31, h32⟩ | h31
          · have hcx := hid (HROT.out s m e d wr rfl S1.out h11 h12 (by omega))
            go_wp2_with fail
            refine hcx.out.mono ?_
            rintro e' w4 ⟨rfl, d1, hRo, hS⟩
            have HRo := hid hRo; have S7 : Aside _ := hS; clear hRo hS
            have hd1s : d1.size = d.size := HRo.out.1
            obtain ⟨t1, t2, t3, t4, t5, t6, t7, t8, t9, t10⟩ := turned BD.out HF.out HL.out HR.out hb (by rw [← hes.out]; exact HRo.out)
            rw [← hes.out] at t3 t4 t8 t9
            have HT1 := hid t5; have HT3 := hid t6; have HT4 := hid t7; have HT5 := hid t8; have HT6 := hid t9; have HT2 := hid t10
            clear t5 t6 t7 t8 t9 t10
            have HM2 := hid (merged_self HT3.out HT4.out (by omega))
            clear hd1s
            have hd1s : Hid (d1.size = d.size) := HRo.out.1
            have hcz := hid (HIH.out mid e b d1 w4 ((keep_size2 HM2.out).trans (by first | exact hd1s.out | rfl)) S7.out (by omega) h31 h32 hb (srt_out HM2.out.1 HT5.out (.inr (Nat.le_refl _))) (srt_out HM2.out.1 HT6.out (.inr (by omega))))
            go_wp2_with fail
            refine hcz.out.mono ?_
            rintro e' w6 ⟨rfl, d3, hM, hS⟩
            have HM3 := hid hM; have S9 : Aside _ := hS; clear hM hS
            go_wp2_with fail
            go_end0
            exact ⟨rfl, d3, joined (by omega) (by omega) HT1.out HT2.out HM2.out HM3.out, S9.out⟩
          · have hcx := hid (HROT.out s m e d wr rfl S1.out h11 h12 (by omega))
            go_wp2_with fail
            refine hcx.out.mono ?_
            rintro e' w4 ⟨rfl, d1, hRo, hS⟩
            have HRo := hid hRo; have S7 : Aside _ := hS; clear hRo hS
            have hd1s : d1.size = d.size := HRo.out.1
            obtain ⟨t1, t2, t3, t4, t5, t6, t7, t8, t9, t10⟩ := turned BD.out HF.out HL.out HR.out hb (by rw [← hes.out]; exact HRo.out)
            rw [← hes.out] at t3 t4 t8 t9
            have HT1 := hid t5; have HT3 := hid t6; have HT4 := hid t7; have HT5 := hid t8; have HT6 := hid t9; have HT2 := hid t10
            clear t5 t6 t7 t8 t9 t10
            have HM2 := hid (merged_self HT3.out HT4.out (by omega))
            clear hd1s
            have hd1s : Hid (d1.size = d.size) := HRo.out.1
            have HM3 := hid (merged_self (srt_out HM2.out.1 HT5.out (.inr (Nat.le_refl _))) (srt_out HM2.out.1 HT6.out (.inr (by omega))) (by omega))
            go_wp2_with fail
            go_end0
            exact ⟨rfl, d1, joined (by omega) (by omega) HT1.out HT2.out HM2.out HM3.out, S7.out⟩
          · have hcx := hid (HROT.out s m e d wr rfl S1.out h11 h12 (by omega))
            go_wp2_with fail
            refine hcx.out.mono ?_
            rintro e' w4 ⟨rfl, d1, hRo, hS⟩
            have HRo := hid hRo; have S7 : Aside _ := hS; clear hRo hS
            have hd1s : d1.size = d.size := HRo.out.1
            obtain ⟨t1, t2, t3, t4, t5, t6, t7, t8, t9, t10⟩ := turned BD.out HF.out HL.out HR.out hb (by rw [← hes.out]; exact HRo.out)
            rw [← hes.out] at t3 t4 t8 t9
            have HT1 := hid t5; have HT3 := hid t6; have HT4 := hid t7; have HT5 := hid t8; have HT6 := hid t9; have HT2 := hid t10
            clear t5 t6 t7 t8 t9 t10
            have HM2 := hid (merged_self HT3.out HT4.out (by omega))
            clear hd1s
            have hd1s : Hid (d1.size = d.size) := HRo.out.1
            have HM3 := hid (merged_self (srt_out HM2.out.1 HT5.out (.inr (Nat.le_refl _))) (srt_out HM2.out.1 HT6.out (.inr (by omega))) (by omega))
            go_wp2_with fail
            go_end0
            exact ⟨rfl, d1, joined (by omega) (by omega) HT1.out HT2.out HM2.out HM3.out, S7.out⟩
        · rcases (by omega : (mid < e ∧ e < b) ∨ (mid < e ∧ ¬ e < b) ∨ ¬ mid < e) with ⟨h31, h32⟩ | ⟨h31, h32⟩ | h31
          · have hcx := hid (HROT.out s m e d wr rfl S1.out h11 h12 (by omega))
            go_wp2_with fail
            refine hcx.out.mono ?_
            rintro e' w4 ⟨rfl, d1, hRo, hS⟩
            have HRo := hid hRo; have S7 : Aside _ := hS; clear hRo hS
            have hd1s : d1.size = d.size := HRo.out.1
            obtain ⟨t1, t2, t3, t4, t5, t6, t7, t8, t9, t10⟩ := turned BD.out HF.out HL.out HR.out hb (by rw [← hes.out]; exact HRo.out)
            rw [← hes.out] at t3 t4 t8 t9
            have HT1 := hid t5; have HT3 := hid t6; have HT4 := hid t7; have HT5 := hid t8; have HT6 := hid t9; have HT2 := hid t10
            clear t5 t6 t7 t8 t9 t10
            have HM2 := hid (merged_self HT3.out HT4.out (by omega))
            clear hd1s
            have hd1s : Hid (d1.size = d.size) := HRo.out.1
            have hcz := hid (HIH.out mid e b d1 w4 ((keep_size2 HM2.out).trans (by first | exact hd1s.out | rfl)) S7.out (by omega) h31 h32 hb (srt_out HM2.out.1 HT5.out (.inr (Nat.le_refl _))) (srt_out HM2.out.1 HT6.out (.inr (by omega))))
            go_wp2_with fail
            refine hcz.out.mono ?_
            rintro e' w6 ⟨rfl, d3, hM, hS⟩
            have HM3 := hid hM; have S9 : Aside _ := hS; clear hM hS
            go_wp2_with fail
            go_end0
            exact ⟨rfl, d3, joined (by omega) (by omega) HT1.out HT2.out HM2.out HM3.out, S9.out⟩
          · have hcx := hid (HROT.out s m e d wr rfl S1.out h11 h12 (by omega))
            go_wp2_with fail
            refine hcx.out.mono ?_
            rintro e' w4 ⟨rfl, d1, hRo, hS⟩
            have HRo := hid hRo; have S7 : Aside _ := hS; clear hRo hS
            have hd1s : d1.size = d.size := HRo.out.1
            obtain ⟨t1, t2, t3, t4, t5, t6, t7, t8, t9, t10⟩ := turned BD.out HF.out HL.out HR.out hb (by rw [← hes.out]; exact HRo.out)
            rw [← hes.out] at t3 t4 t8 t9
            have HT1 := hid t5; have HT3 := hid t6; have HT4 := hid t7; have HT5 := hid t8; have HT6 := hid t9; have HT2 := hid t10
            clear t5 t6 t7 t8 t9 t10
            have HM2 := hid (merged_self HT3.out HT4.out (by omega))
            clear hd1s
            have hd1s : Hid (d1.size = d.size) := HRo.out.1
            have HM3 := hid (merged_self (srt_out HM2.out.1 HT5.out (.inr (Nat.le_refl _))) (srt_out HM2.out.1 HT6.out (.inr (by omega))) (by omega))
            go_wp2_with fail
            go_end0
            exact ⟨rfl, d1, joined (by omega) (by omega) HT1.out HT2.out HM2.out HM3.out, S7.out⟩
          · have hcx := hid (HROT.out s m e d wr rfl S1.out h11 h12 (by omega))
            go_wp2_with fail
            refine hcx.out.mono ?_
            rintro e' w4 ⟨rfl, d1, hRo, hS⟩
            have HRo := hid hRo; have S7 : Aside _ := hS; clear hRo hS
            have hd1s : d1.size = d.size := HRo.out.1
            obtain ⟨t1, t2, t3, t4, t5, t6, t7, t8, t9, t10⟩ := turned BD.out HF.out HL.out HR.out hb (by rw [← hes.out]; exact HRo.out)
            rw [← hes.out] at t3 t4 t8 t9
            have HT1 := hid t5; have HT3 := hid t6; have HT4 := hid t7; have HT5 := hid t8; have HT6 := hid t9; have HT2 := hid t10
            clear t5 t6 t7 t8 t9 t10
            have HM2 := hid (merged_self HT3.out HT4.out (by omega))
            clear hd1s
            have hd1s : Hid (d1.size = d.size) := HRo.out.1
            have HM3 := hid (merged_self (srt_out HM2.out.1 HT5.out (.inr (Nat.le_refl _))) (srt_out HM2.out.1 HT6.out (.inr (by omega))) (by omega))
            go_wp2_with fail
            go_end0
            exact ⟨rfl, d1, joined (by omega) (by omega) HT1.out HT2.out HM2.out HM3.out, S7.out⟩
      · rcases (by omega : (a < s ∧ s < mid) ∨ (a < s ∧ ¬ s < mid) ∨ ¬ a < s) with ⟨h21, h22⟩ | ⟨h21, h22⟩ | h21
        · rcases (by omega : (mid < e ∧ e < b) ∨ (mid < e ∧ ¬ e < b) ∨ ¬ mid < e) with ⟨h31, h32⟩ | ⟨h31, h32⟩ | h31
          · have HRo := hid (Rot.none_ (s := s) (m := m) (e := e) d (by omega))
            have hd1s : d.size = d.size := rfl
            obtain ⟨t1, t2, t3, t4, t5, t6, t7, t8, t9, t10⟩ := turned BD.out HF.out HL.out HR.out hb (by rw [← hes.out]; exact HRo.out)
            rw [← hes.out] at t3 t4 t8 t9
            have HT1 := hid t5; have HT3 := hid t6; have HT4 := hid t7; have HT5 := hid t8; have HT6 := hid t9; have HT2 := hid t10
            clear t5 t6 t7 t8 t9 t10
            have hcy := hid (HIH.out a s mid d wr hd1s S1.out (by omega) h21 h22 (by omega) HT3.out HT4.out)
            clear hd1s
            have hd1s : Hid (d.size = d.size) := rfl
            go_wp2_with fail
            refine hcy.out.mono ?_
            rintro e' w5 ⟨rfl, d2, hM, hS⟩
            have HM2 := hid hM; have S8 : Aside _ := hS; clear hM hS
            have hcz := hid (HIH.out mid e b d2 w5 ((keep_size2 HM2.out).trans (by first | exact hd1s.out | rfl)) S8.out (by omega) h31 h32 hb (srt_out HM2.out.1 HT5.out (.inr (Nat.le_refl _))) (srt_out HM2.out.1 HT6.out (.inr (by omega))))
            go_wp2_with fail
            refine hcz.out.mono ?_
            rintro e' w6 ⟨rfl, d3, hM, hS⟩
            have HM3 := hid hM; have S9 : Aside _ := hS; clear hM hS
            go_wp2_with fail
            go_end0
            exact ⟨rfl, d3, joined (by omega) (by omega) HT1.out HT2.out HM2.out HM3.out, S9.out⟩
          · have HRo := hid (Rot.none_ (s := s) (m := m) (e := e) d (by omega))
            have hd1s : d.size = d.size := rfl
            obtain ⟨t1, t2, t3, t4, t5, t6, t7, t8, t9, t10⟩ := turned BD.out HF.out HL.out HR.out hb (by rw [← hes.out]; exact HRo.out)
            rw [← hes.out] at t3 t4 t8 t9
            have HT1 := hid t5; have HT3 := hid t6; have HT4 := hid t7; have HT5 := hid t8; have HT6 := hid t9; have HT2 := hid t10
            clear t5 t6 t7 t8 t9 t10
            have hcy := hid (HIH.out a s mid d wr hd1s S1.out (by omega) h21 h22 (by omega) HT3.out HT4.out)
            clear hd1s
            have hd1s : Hid (d.size = d.size) := rfl
            go_wp2_with fail
            refine hcy.out.mono ?_
            rintro e' w5 ⟨rfl, d2, hM, hS⟩
            have HM2 := hid hM; have S8 : Aside _ := hS; clear hM hS
            have HM3 := hid (merged_self (srt_out HM2.out.1 HT5.out (.inr (Nat.le_refl _))) (srt_out HM2.out.1 HT6.out (.inr (by omega))) (by omega))
            go_wp2_with fail
            go_end0
            exact ⟨rfl, d2, joined (by omega) (by omega) HT1.out HT2.out HM2.out HM3.out, S8.out⟩
          · have HRo := hid (Rot.none_ (s := s) (m := m) (e := e) d (by omega))
            have hd1s : d.size = d.size := rfl
            obtain ⟨t1, t2, t3, t4, t5, t6, t7, t8, t9, t10⟩ := turned BD.out HF.out HL.out HR.out hb (by rw [← hes.out]; exact HRo.out)
            rw [← hes.out] at t3 t4 t8 t9
            have HT1 := hid t5; have HT3 := hid t6; have HT4 := hid t7; have HT5 := hid t8; have HT6 := hid t9; have HT2 := hid t10
            clear t5 t6 t7 t8 t9 t10
            have hcy := hid (HIH.out a s mid d wr hd1s S1.out (by omega) h21 h22 (by omega) HT3.out HT4.out)
            clear hd1s
            have hd1s : Hid (d.size = d.size) := rfl
            go_wp2_with fail
            refine hcy.out.mono ?_
            rintro e' w5 ⟨rfl, d2, hM, hS⟩
            have HM2 := hid hM; have S8 : Aside _ := hS; clear hM hS
            have HM3 := hid (merged_self (srt_out HM2.out.1 HT5.out (.inr (Nat.le_refl _))) (srt_out HM2.out.1 HT6.out (.inr (by omega))) (by omega))
            go_wp2_with fail
            go_end0
            exact ⟨rfl, d2, joined (by omega) (by omega) HT1.out HT2.out HM2.out HM3.out, S8.out⟩
        · rcases (by omega : (mid < e ∧ e < b) ∨ (mid < e ∧ ¬ e < b) ∨ ¬ mid < e) with ⟨h31, h32⟩ | ⟨h31, h32⟩ | h31
          · have HRo := hid (Rot.none_ (s := s) (m := m) (e := e) d (by omega))
            have hd1s : d.size = d.size := rfl
            obtain ⟨t1, t2, t3, t4, t5, t6, t7, t8, t9, t10⟩ := turned BD.out HF.out HL.out HR.out hb (by rw [← hes.out]; exact HRo.out)
            rw [← hes.out] at t3 t4 t8 t9
            have HT1 := hid t5; have HT3 := hid t6; have HT4 := hid t7; have HT5 := hid t8; have HT6 := hid t9; have HT2 := hid t10
            clear t5 t6 t7 t8 t9 t10
            have HM2 := hid (merged_self HT3.out HT4.out (by omega))
            clear hd1s
            have hd1s : Hid (d.size = d.size) := rfl
            have hcz := hid (HIH.out mid e b d wr ((keep_size2 HM2.out).trans (by first | exact hd1s.out | rfl)) S1.out (by omega) h31 h32 hb (srt_out HM2.out.1 HT5.out (.inr (Nat.le_refl _))) (srt_out HM2.out.1 HT6.out (.inr (by omega))))
            go_wp2_with fail
            refine hcz.out.mono ?_
            rintro e' w6 ⟨rfl, d3, hM, hS⟩
            have HM3 := hid hM; have S9 : Aside _ := hS; clear hM hS
            go_wp2_with fail
            go_end0
            exact ⟨rfl, d3, joined (by omega) (by omega) HT1.out HT2.out HM2.out HM3.out, S9.out⟩
          · have HRo := hid (Rot.none_ (s := s) (m := m) (e := e) d (by omega))
            have hd1s : d.size = d.size := rfl
            obtain ⟨t1, t2, t3, t4, t5, t6, t7, t8, t9, t10⟩ := turned BD.out HF.out HL.out HR.out hb (by rw [← hes.out]; exact HRo.out)
            rw [← hes.out] at t3 t4 t8 t9
            have HT1 := hid t5; have HT3 := hid t6; have HT4 := hid t7; have HT5 := hid t8; have HT6 := hid t9; have HT2 := hid t10
            clear t5 t6 t7 t8 t9 t10
            have HM2 := hid (merged_self HT3.out HT4.out (by omega))
            clear hd1s
            have hd1s : Hid (d.size = d.size) := rfl
            have HM3 := hid (merged_self (srt_out HM2.out.1 HT5.out (.inr (Nat.le_refl _))) (srt_out HM2.out.1 HT6.out (.inr (by omega))) (by omega))
            go_wp2_with fail
            go_end0
            exact ⟨rfl, d, joined (by omega) (by omega) HT1.out HT2.out HM2.out HM3.out, S1.out⟩
          · have HRo := hid (Rot.none_ (s := s) (m := m) (e := e) d (by omega))
            have hd1s : d.size = d.size := rfl
            obtain ⟨t1, t2, t3, t4, t5, t6, t7, t8, t9, t10⟩ := turned BD.out HF.out HL.out HR.out hb (by rw [← hes.out]; exact HRo.out)
            rw [← hes.out] at t3 t4 t8 t9
            have HT1 := hid t5; have HT3 := hid t6; have HT4 := hid t7; have HT5 := hid t8; have HT6 := hid t9; have HT2 := hid t10
            clear t5 t6 t7 t8 t9 t10
            have HM2 := hid (merged_self HT3.out HT4.out (by omega))
            clear hd1s
            have hd1s : Hid (d.size = d.size) := rfl
            have HM3 := hid (merged_self (srt_out HM2.out.1 HT5.out (.inr (Nat.le_refl _))) (srt_out HM2.out.1 HT6.out (.inr (by omega))) (by omega))
            go_wp2_with fail
            go_end0
            exact ⟨rfl, d, joined (by omega) (by omega) HT1.out HT2.out HM2.out HM3.out, S1.out⟩
        · rcases (by omega : (mid < e ∧ e < b) ∨ (mid < e ∧ ¬ e < b) ∨ ¬ mid < e) with ⟨h31, h32⟩ | ⟨h31, h32⟩ | h31
          · have HRo := hid (Rot.none_ (s := s) (m := m) (e := e) d (by omega))
            have hd1s : d.size = d.size := rfl
            obtain ⟨t1, t2, t3, t4, t5, t6, t7, t8, t9, t10⟩ := turned BD.out HF.out HL.out HR.out hb (by rw [← hes.out]; exact HRo.out)
            rw [← hes.out] at t3 t4 t8 t9
            have HT1 := hid t5; have HT3 := hid t6; have HT4 := hid t7; have HT5 := hid t8; have HT6 := hid t9; have HT2 := hid t10
            clear t5 t6 t7 t8 t9 t10
            have HM2 := hid (merged_self HT3.out HT4.out (by omega))
            clear hd1s
            have hd1s : Hid (d.size = d.size) := rfl
            have hcz := hid (HIH.out mid e b d wr ((keep_size2 HM2.out).trans (by first | exact hd1s.out | rfl)) S1.out (by omega) h31 h32 hb (srt_out HM2.out.1 HT5.out (.inr (Nat.le_refl _))) (srt_out HM2.out.1 HT6.out (.inr (by omega))))
            go_wp2_with fail
            refine hcz.out.mono ?_
            rintro e' w6 ⟨rfl, d3, hM, hS⟩
            have HM3 := hid hM; have S9 : Aside _ := hS; clear hM hS
            go_wp2_with fail
            go_end0
            exact ⟨rfl, d3, joined (by omega) (by omega) HT1.out HT2.out HM2.out HM3.out, S9.out⟩
          · have HRo := hid (Rot.none_ (s := s) (m := m) (e := e) d (by omega))
            have hd1s : d.size = d.size := rfl
            obtain ⟨t1, t2, t3, t4, t5, t6, t7, t8, t9, t10⟩ := turned BD.out HF.out HL.out HR.out hb (by rw [← hes.out]; exact HRo.out)
            rw [← hes.out] at t3 t4 t8 t9
            have HT1 := hid t5; have HT3 := hid t6; have HT4 := hid t7; have HT5 := hid t8; have HT6 := hid t9; have HT2 := hid t10
            clear t5 t6 t7 t8 t9 t10
            have HM2 := hid (merged_self HT3.out HT4.out (by omega))
            clear hd1s
            have hd1s : Hid (d.size = d.size) := rfl
            have HM3 := hid (merged_self (srt_out HM2.out.1 HT5.out (.inr (Nat.le_refl _))) (srt_out HM2.out.1 HT6.out (.inr (by omega))) (by omega))
            go_wp2_with fail
            go_end0
            exact ⟨rfl, d, joined (by omega) (by omega) HT1.out HT2.out HM2.out HM3.out, S1.out⟩
          · have HRo := hid (Rot.none_ (s := s) (m := m) (e := e) d (by omega))
            have hd1s : d.size = d.size := rfl
            obtain ⟨t1, t2, t3, t4, t5, t6, t7, t8, t9, t10⟩ := turned BD.out HF.out HL.out HR.out hb (by rw [← hes.out]; exact HRo.out)
            rw [← hes.out] at t3 t4 t8 t9
            have HT1 := hid t5; have HT3 := hid t6; have HT4 := hid t7; have HT5 := hid t8; have HT6 := hid t9; have HT2 := hid t10
            clear t5 t6 t7 t8 t9 t10
            have HM2 := hid (merged_self HT3.out HT4.out (by omega))
            clear hd1s
            have hd1s : Hid (d.size = d.size) := rfl
            have HM3 := hid (merged_self (srt_out HM2.out.1 HT5.out (.inr (Nat.le_refl _))) (srt_out HM2.out.1 HT6.out (.inr (by omega))) (by omega))
            go_wp2_with fail
            go_end0
            exact ⟨rfl, d, joined (by omega) (by omega) HT1.out HT2.out HM2.out HM3.out, S1.out⟩
end Go.Proofs.Ytoljnbbhoeloeaa
