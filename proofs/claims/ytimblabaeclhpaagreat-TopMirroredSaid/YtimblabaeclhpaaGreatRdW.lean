/- WALK: the small steps of the reader: fail, next, is, must, digit. -/
import Derived.Test.YtimblabaeclhpaaGreatRd
import Derived.Laws.StandIn
namespace Go.Proofs.YtimblabaeclhpaaGreat
open Go.RowKit
set_option maxRecDepth 100000 in
set_option maxHeartbeats 2000000 in
theorem fail_any (rb : Nat) (s : ByteArray) (p : Nat) (w : World) (h : Rdr w rb s p) :
    Calls Tryz.prog 28 #[.pointer (some ⟨rb, 0, none⟩)] w fun e w' => e = wrongP p ∧ w' = w := by
  obtain ⟨-, -, c2, -⟩ := h.cells
  unfold wrongP
  clear h
  go_enter Tryz.func28, Tryz.ntmps28
  go_wp2_with fail
  exact ⟨rfl, rfl, rfl⟩
set_option maxRecDepth 100000 in
set_option maxHeartbeats 2000000 in
theorem next_any (rb : Nat) (s : ByteArray) (p : Nat) (w : World) (h : Rdr w rb s p) (hp : p ≤ s.size) :
    Calls Tryz.prog 104 #[.pointer (some ⟨rb, 0, none⟩)] w fun e w' => e = .returned (.int .u8 (byt s p)) ∧ Rdr w' rb s p ∧ Kp rb w w' := by
  obtain ⟨-, c1, c2, -⟩ := h.cells
  have HR := hid h
  have HK := hid (Kp.refl rb w)
  clear h
  by_cases hq : p = s.size
  · have e1 : ((p : Int) == (s.size : Int)) = true := by simp [hq]
    have HX := hid (byt_out (s := s) (p := p) (by omega))
    clear hq hp
    go_enter Tryz.func104, Tryz.ntmps104
    go_upto_region 1 with (fail)
    go_quiet (fail)
    go_wp2_with fail
    go_ret
    exact ⟨by rw [HX.out]; rfl, HR.out, HK.out.drewN _⟩
  · have e1 : ((p : Int) == (s.size : Int)) = false := by simp; omega
    have hix := fun W => run_byt s p (by omega) W
    generalize byt s p = b at *
    clear hq hp
    go_enter Tryz.func104, Tryz.ntmps104
    go_upto_region 1 with (fail)
    go_quiet (fail)
    go_upto_region 3 with (fail)
    go_quiet (fail)
    go_wp2_with fail
    go_ret
    exact ⟨rfl, HR.out, (HK.out.drewN _).drewN _⟩
/-- A string with no byte here. -/
theorem is_out {s : ByteArray} {c : Int} {p : Nat} (h : s.size ≤ p) (hc : 0 < c) : decide (byt s p = c) = false ∧ isQ s c p = p := by
  have : byt s p ≠ c := by rw [byt_out h]; omega
  exact ⟨decide_eq_false this, if_neg this⟩
set_option maxRecDepth 100000 in
set_option maxHeartbeats 2000000 in
theorem is_any (rb : Nat) (s : ByteArray) (p : Nat) (c : Int) (w : World) (h : Rdr w rb s p) (hp : p ≤ s.size) (hs : s.size ≤ 1000000) (hc : 0 < c) :
    Calls Tryz.prog 99 #[.pointer (some ⟨rb, 0, none⟩), .int .u8 c] w fun e w' => e = .returned (.bool (decide (byt s p = c))) ∧ Rdr w' rb s (isQ s c p) ∧ Kp rb w w' := by
  obtain ⟨-, c1, c2, z2⟩ := h.cells
  have HR := hid h
  have HK := hid (Kp.refl rb w)
  clear h
  by_cases hq : p < s.size
  · have e1 : ((p : Int) < (s.size : Int)) := by omega
    have hix := fun W => run_byt s p (by omega) W
    have hb := byt_b s p
    by_cases hbc : byt s p = c
    · have HX := hid (show isQ s c p = p + 1 from if_pos hbc)
      rw [hbc] at hix
      have HY := hid (show decide (byt s p = c) = true from decide_eq_true hbc)
      generalize byt s p = b at *
      clear hq hp hb hbc
      go_enter Tryz.func99, Tryz.ntmps99
      go_upto_region 1 with (fail)
      go_quiet (fail)
      go_wp2_with fail
      go_ret
      rw [HX.out, HY.out]
      refine ⟨rfl, ?_, (HK.out.drewN _).set _⟩
      have h1 : Rdr (w.drewN nq) rb s p := HR.out
      exact h1.set1 (by omega)
    · have HX := hid (show isQ s c p = p from if_neg hbc)
      have HY := hid (show decide (byt s p = c) = false from decide_eq_false hbc)
      have e2 : (byt s p == c) = false := by simpa using hbc
      generalize byt s p = b at *
      clear hq hp hb hbc
      go_enter Tryz.func99, Tryz.ntmps99
      go_upto_region 1 with (fail)
      go_quiet (fail)
      go_wp2_with fail
      go_ret
      rw [HX.out, HY.out]
      exact ⟨rfl, HR.out, HK.out.drewN _⟩
  · have e1 : decide (p < s.size) = false := decide_eq_false hq
    obtain ⟨y1, y2⟩ := is_out (s := s) (c := c) (p := p) (by omega) hc
    have HX := hid y2; have HY := hid y1
    generalize byt s p = b at *
    clear hq hp y1 y2
    go_enter Tryz.func99, Tryz.ntmps99
    go_upto_region 1 with (fail)
    go_quiet (fail)
    go_wp2_with fail
    go_ret
    rw [HX.out, HY.out]
    exact ⟨rfl, HR.out, HK.out.drewN _⟩
set_option maxRecDepth 100000 in
set_option maxHeartbeats 2000000 in
theorem must_any (rb : Nat) (s : ByteArray) (p : Nat) (c : Int) (w : World) (h : Rdr w rb s p) (hp : p ≤ s.size) (hs : s.size ≤ 1000000) (hc : 0 < c) :
    Calls Tryz.prog 101 #[.pointer (some ⟨rb, 0, none⟩), .int .u8 c] w fun e w' => (if byt s p = c then e = .returned (.tuple #[]) ∧ Rdr w' rb s (p + 1) else e = wrongP p ∧ Rdr w' rb s p) ∧ Kp rb w w' := by
  have HIS := hid (is_any rb s p c w h hp hs hc)
  have HF := hid fun (W : World) (h : Rdr W rb s p) => fail_any rb s p W h
  by_cases hbc : byt s p = c
  · rw [show decide (byt s p = c) = true from decide_eq_true hbc, show isQ s c p = p + 1 from if_pos hbc] at HIS
    simp only [if_pos hbc]
    clear hbc h hp hs hc HF
    go_enter Tryz.func101, Tryz.ntmps101
    go_wp2_with (first | (go_at_call 99; refine HIS.out.mono ?_; rintro e w2 ⟨rfl, h2, h3⟩; have H2 := hid h2; have H3 := hid h3; clear h2 h3))
    go_end0
    exact ⟨⟨rfl, H2.out⟩, H3.out⟩
  · rw [show decide (byt s p = c) = false from decide_eq_false hbc, show isQ s c p = p from if_neg hbc] at HIS
    simp only [if_neg hbc]
    clear hbc h hp hs hc
    go_enter Tryz.func101, Tryz.ntmps101
    go_wp2_with (first | (go_at_call 99; refine HIS.out.mono ?_; rintro e w2 ⟨rfl, h2, h3⟩; have H2 := hid h2; have H3 := hid h3; clear h2 h3) | (go_at_call 28; refine (HF.out _ H2.out).mono ?_; rintro e w3 ⟨rfl, rfl⟩; unfold wrongP))
    exact ⟨rfl, ⟨rfl, H2.out⟩, H3.out⟩
set_option maxRecDepth 100000 in
set_option maxHeartbeats 2000000 in
theorem digit_any (rb : Nat) (s : ByteArray) (p : Nat) (lo hi : Int) (w : World) (h : Rdr w rb s p) (hp : p ≤ s.size) (hs : s.size ≤ 1000000) (hl : 48 ≤ lo) :
    Calls Tryz.prog 109 #[.pointer (some ⟨rb, 0, none⟩), .int .u8 lo, .int .u8 hi] w fun e w' => (match digitP s lo hi p with
      | .bad q => e = wrongP q ∧ Rdr w' rb s q
      | .ok x q => e = .returned (.int .i64 x) ∧ Rdr w' rb s q) ∧ Kp rb w w' := by
  have HNX := hid (next_any rb s p w h hp)
  have HF := hid fun (W : World) (h : Rdr W rb s p) => fail_any rb s p W h
  have hb := byt_b s p
  by_cases h1 : byt s p < lo
  · have e1 : byt s p < lo := h1
    rw [show digitP s lo hi p = .bad p from if_neg (by omega)]
    generalize byt s p = b at *
    clear h1 hb h hp hs hl
    go_enter Tryz.func109, Tryz.ntmps109
    go_wp2_with (first | (go_at_call 104; refine HNX.out.mono ?_; rintro e w2 ⟨rfl, h2, h3⟩; have H2 := hid h2; have H3 := hid h3; clear h2 h3) | (go_at_call 28; refine (HF.out _ H2.out).mono ?_; rintro e w3 ⟨rfl, rfl⟩; unfold wrongP))
    exact ⟨rfl, ⟨rfl, H2.out⟩, H3.out⟩
  · have e1 : decide (byt s p < lo) = false := decide_eq_false h1
    by_cases h2 : hi < byt s p
    · have e2 : decide (hi < byt s p) = true := decide_eq_true h2
      rw [show digitP s lo hi p = .bad p from if_neg (by omega)]
      generalize byt s p = b at *
      clear h1 h2 hb h hp hs hl
      go_enter Tryz.func109, Tryz.ntmps109
      go_wp2_with (first | (go_at_call 104; refine HNX.out.mono ?_; rintro e w2 ⟨rfl, h2, h3⟩; have H2 := hid h2; have H3 := hid h3; clear h2 h3) | (go_at_call 28; refine (HF.out _ H2.out).mono ?_; rintro e w3 ⟨rfl, rfl⟩; unfold wrongP))
      exact ⟨rfl, ⟨rfl, H2.out⟩, H3.out⟩
    · have e2 : decide (hi < byt s p) = false := decide_eq_false h2
      rw [show digitP s lo hi p = .ok (byt s p - 48) (p + 1) from if_pos (by omega)]
      have hb1 : 48 ≤ byt s p := by omega
      have hb2 := hb.2
      generalize byt s p = b at *
      clear h1 h2 hb h hl
      go_enter Tryz.func109, Tryz.ntmps109
      go_wp2_with (first | (go_at_call 104; refine HNX.out.mono ?_; rintro e w2 ⟨rfl, h2, h3⟩; have H2 := hid h2; have H3 := hid h3; obtain ⟨-, -, c2, z2⟩ := h2.cells; clear h2 h3))
      go_ret
      exact ⟨⟨by go_num, H2.out.set1 (by omega)⟩, H3.out.set _⟩
end Go.Proofs.YtimblabaeclhpaaGreat

/- WALK: strings.IndexByte in the states' signs. -/
namespace Go.Proofs.YtimblabaeclhpaaGreat
open Go.RowKit
theorem idx_st : ∀ n : Fin 256, firstIdx ⟨#[35, 61, 33]⟩ n.val.toUInt8 = stateB (n.val : Int) - 1 := by decide +kernel
set_option maxRecDepth 100000 in
set_option maxHeartbeats 2000000 in
theorem index_st (c : Int) (h0 : 0 ≤ c) (h1 : c ≤ 255) (w : World) :
    Calls Tryz.prog 110 #[.string ⟨#[35, 61, 33]⟩, .int .u8 c] w fun e w' => e = .returned (.int .i64 (stateB c - 1)) ∧ w' = w := by
  have hx : firstIdx ⟨#[35, 61, 33]⟩ c.toNat.toUInt8 = stateB c - 1 := by
    have := idx_st ⟨c.toNat, by omega⟩
    rw [show ((c.toNat : Nat) : Int) = c by omega] at this
    exact this
  have hrun := fun W => run_callFunc_indexByte (P := Tryz.prog) Tryz.func112 (by kernel_rfl) (by kernel_rfl) (by kernel_rfl) (by kernel_rfl) #[.string ⟨#[35, 61, 33]⟩, .int .u8 c] W
  simp only [run_indexByte_string, hx, Result.andThen_ok] at hrun
  clear hx
  have HS := hid fun (W : World) => (show Calls Tryz.prog 111 #[.string ⟨#[35, 61, 33]⟩, .int .u8 c] W fun e w' => e = .returned (.int .i64 (stateB c - 1)) ∧ w' = W from by
    generalize stateB c - 1 = r at *
    clear h0 h1
    go_enter Tryz.func111, Tryz.ntmps111
    go_wp2_with fail
    go_ret
    exact ⟨rfl, rfl⟩)
  generalize stateB c - 1 = r at *
  clear hrun h0 h1
  go_enter Tryz.func110, Tryz.ntmps110
  go_wp2_with (first | (go_at_call 111; refine (HS.out _).mono ?_; rintro e w2 ⟨rfl, rfl⟩))
  go_ret
  exact ⟨rfl, rfl⟩
end Go.Proofs.YtimblabaeclhpaaGreat
