/- WALK: the reader's glyph. -/
import Derived.Test.YtimblabaeclhpaaGreatRdW
import Derived.Test.YtimblabaeclhpaaGreatRd
import Derived.Test.YtimblabaeclhpaaGreatGen
namespace Go.Proofs.YtimblabaeclhpaaGreat
open Go.RowKit
/-- What a reading of an item does. -/
def ItP (s : ByteArray) (rb : Nat) (w : World) (r : PR Itm) (e : Ending) (w' : World) : Prop := (match r with
  | .bad q => e = wrongP q ∧ Rdr w' rb s q
  | .ok x q => ∃ v, e = .returned (ivA v) ∧ ItX 1 w.heap.size [] w' v x ∧ Rdr w' rb s q) ∧ Kp rb w w'
theorem ItP.bad {s : ByteArray} {rb q : Nat} {w w' : World} {r : PR Itm} {e : Ending} (hr : r = .bad q) (he : e = wrongP q) (h : Rdr w' rb s q) (hk : Kp rb w w') : ItP s rb w r e w' := by
  subst hr; exact ⟨⟨he, h⟩, hk⟩
theorem ItP.ok {s : ByteArray} {rb q : Nat} {w w' : World} {r : PR Itm} {x : Itm} {v : Iv} {e : Ending} (hr : r = .ok x q) (he : e = .returned (ivA v)) (hx : ItX 1 w.heap.size [] w' v x) (h : Rdr w' rb s q) (hk : Kp rb w w') : ItP s rb w r e w' := by
  subst hr; exact ⟨⟨v, he, hx, h⟩, hk⟩
theorem al_cases (b : Int) :
    (alB b = true ∧ decide (65 ≤ b) = true ∧ decide (b ≤ 90) = true) ∨
    (alB b = true ∧ decide (65 ≤ b) = true ∧ decide (b ≤ 90) = false ∧ decide (97 ≤ b) = true ∧ decide (b ≤ 122) = true) ∨
    (alB b = true ∧ decide (65 ≤ b) = false ∧ decide (97 ≤ b) = false ∧ decide (48 ≤ b) = true ∧ decide (b ≤ 57) = true) ∨
    (alB b = false ∧ decide (65 ≤ b) = false ∧ decide (97 ≤ b) = false ∧ decide (48 ≤ b) = false) ∨
    (alB b = false ∧ decide (65 ≤ b) = false ∧ decide (97 ≤ b) = false ∧ decide (48 ≤ b) = true ∧ decide (b ≤ 57) = false) ∨
    (alB b = false ∧ decide (65 ≤ b) = true ∧ decide (b ≤ 90) = false ∧ decide (97 ≤ b) = false ∧ decide (48 ≤ b) = true ∧ decide (b ≤ 57) = false) ∨
    (alB b = false ∧ decide (65 ≤ b) = true ∧ decide (b ≤ 90) = false ∧ decide (97 ≤ b) = true ∧ decide (b ≤ 122) = false ∧ decide (48 ≤ b) = true ∧ decide (b ≤ 57) = false) := by
  simp only [alB, upB, loB, dgB, Bool.or_eq_true, Bool.or_eq_false_iff, decide_eq_true_eq, decide_eq_false_iff_not]
  omega
theorem stateB_b (c : Int) : 0 ≤ stateB c ∧ stateB c ≤ 3 := by
  unfold stateB
  split
  · decide
  · split
    · decide
    · split <;> decide
theorem al_in {s : ByteArray} {q : Nat} (h : alB (byt s q) = true) : q < s.size := by
  by_cases hp : q < s.size
  · exact hp
  · rw [byt_out (by omega)] at h; exact absurd h (by decide)
theorem NXdrew {P : Program} {f : Nat} {a : Array Value} {rb q : Nat} {s : ByteArray} {v : Value} {w : World} (h : ∀ n, Calls P f a (w.drewN n) fun e w' => e = .returned v ∧ Rdr w' rb s q ∧ Kp rb (w.drewN n) w') (n : Nat) :
    Calls P f a (w.drewN n) fun e w' => e = .returned v ∧ Rdr w' rb s q ∧ Kp rb w w' := (h n).mono fun _ _ ⟨h1, h2, h3⟩ => ⟨h1, h2, ((Kp.refl rb w).drewN n).trans h3⟩
theorem run_slice_pq (s : ByteArray) (p q : Nat) (h1 : p ≤ q) (h2 : q ≤ s.size) (W : World) : (Instr.slice 9 (.string s) (some (.int .i64 (p : Int))) (some (.int .i64 (q : Int))) none).run Tryz.prog W = .ok (.string (s.extract p q)) W := by
  have := run_slice_string (P := Tryz.prog) W 9 s .i64 .i64 (p : Int) (q : Int) Tryz.underlying9 (by omega) (by omega) (by omega)
  simpa using this
theorem ta_line (W : World) : (Instr.typeAssert (.iface 78 (.agg #[])) 56 78 true).run Tryz.prog W = .ok (.tuple #[.agg #[], .bool true]) W := by kernel_rfl
def iv0 : Iv := ⟨kN 0, ⟨#[]⟩, 0, none, 0, 0⟩
set_option maxRecDepth 100000 in
set_option maxHeartbeats 4000000 in
theorem glyph_any (rb : Nat) (s : ByteArray) (p : Nat) (w : World) (h : Rdr w rb s p) (hp : p ≤ s.size) (hs : s.size ≤ 1000000) :
    Calls Tryz.prog 108 #[.pointer (some ⟨rb, 0, none⟩)] w (ItP s rb w (glyphP s p)) := by
  have HNX := hid fun (q : Nat) (W : World) (h : Rdr W rb s q) (hq : q ≤ s.size) => next_any rb s q W h hq
  have HF := hid fun (q : Nat) (W : World) (h : Rdr W rb s q) => fail_any rb s q W h
  obtain ⟨W1, hW1⟩ : ∃ W1, W1 = (w.alloc (.cells #[.int .i64 0, .int .i64 0, .int .i64 0, .int .i64 0, .bool false, .int .i64 0, .int .i64 0, .int .i64 0, .string ⟨#[]⟩, .int .i64 0, .slice none 0 0] 93)).alloc (.cells #[.int .i64 1, .int .i64 0, .int .i64 0, .int .i64 0, .bool false, .int .i64 0, .int .i64 0, .int .i64 0, .string ⟨#[]⟩, .int .i64 (p : Int), .slice none 0 0] 93) := ⟨_, rfl⟩
  have HB := hid (show Below w.heap.size w W1 by rw [hW1]; exact ((Below.refl _ _).alloc (Nat.le_refl _) _).alloc (by simp) _)
  have HR := hid (h.keep HB.out)
  have H0 := hid (show ItB W1 w.heap.size iv0 by rw [hW1]; exact oldB (nwB rfl))
  have H1 := hid (show ItB W1 (w.heap.size + 1) ⟨kN 1, ⟨#[]⟩, p, none, 0, 0⟩ by rw [hW1]; exact nwB (by simp))
  have HK := hid (show Kp rb w W1 from Kp.of_below HB.out)
  have hlt := h.lt
  have hz : w.heap.size + 1 < W1.heap.size := by rw [hW1]; simp
  obtain ⟨-, -, c2, -⟩ := h.cells
  have HW1 := hid hW1
  clear h hW1
  go_enter Tryz.func108, Tryz.ntmps108
  go_upto_region 2 with (fail)
  rw [← HW1.out]
  clear HW1
  obtain ⟨a0, ha0⟩ : ∃ a, a = w.heap.size := ⟨_, rfl⟩
  obtain ⟨a1, ha1⟩ : ∃ a, a = a0 + 1 := ⟨_, rfl⟩
  rw [← ha0] at H0 H1
  rw [← ha1] at H1
  rw [← ha0, ← ha1]
  have hne0 : a0 ≠ rb := by omega
  have hne1 : a1 ≠ rb := by omega
  have h01 : a0 ≠ a1 := by omega
  have HA0 := hid ha0; have HA1 := hid ha1; have HNE0 := hid hne0; have HNE1 := hid hne1; have HN01 := hid h01; have HLT := hid hlt; have HZ := hid hz
  clear ha0 ha1 hlt hz hne0 hne1 h01
  by_cases hu : upB (byt s p) = true
  rotate_left
  · have hX := hid (show glyphP s p = .bad p by unfold glyphP; rw [if_neg hu])
    have hu2 : ¬ (65 ≤ byt s p ∧ byt s p ≤ 90) := fun h => hu (decide_eq_true h)
    have hn := HNX.out p W1 HR.out hp
    generalize byt s p = b at *
    clear hu
    by_cases e1 : b < 65
    · go_wp2_with (first | (go_at_call 104; refine hn.mono ?_; rintro e w2 ⟨rfl, h2, h3⟩; have H2 := hid h2; have H3 := hid h3; clear h2 h3 hn) | (go_at_call 28; refine (HF.out _ _ H2.out).mono ?_; rintro e w3 ⟨rfl, rfl⟩; unfold wrongP))
      exact ⟨rfl, ItP.bad hX.out rfl H2.out (HK.out.trans H3.out)⟩
    · have e2 : 90 < b := by omega
      have e3 : decide (b < 65) = false := decide_eq_false e1
      clear hu2
      go_wp2_with (first | (go_at_call 104; refine hn.mono ?_; rintro e w2 ⟨rfl, h2, h3⟩; have H2 := hid h2; have H3 := hid h3; clear h2 h3 hn) | (go_at_call 28; refine (HF.out _ _ H2.out).mono ?_; rintro e w3 ⟨rfl, rfl⟩; unfold wrongP))
      exact ⟨rfl, ItP.bad hX.out rfl H2.out (HK.out.trans H3.out)⟩
  obtain ⟨hu1, hu2⟩ : 65 ≤ byt s p ∧ byt s p ≤ 90 := of_decide_eq_true hu
  have hps : p < s.size := by
    by_cases hp : p < s.size
    · exact hp
    · rw [byt_out (by omega)] at hu1; omega
  have hn := HNX.out p W1 HR.out hp
  have HGP := hid (show glyphP s p = _ by unfold glyphP; rw [if_pos hu])
  have e1 : decide (byt s p < 65) = false := decide_eq_false (by omega)
  have e2 : decide (90 < byt s p) = false := decide_eq_false (by omega)
  generalize byt s p = b at hn e1 e2
  clear hu hu1 hu2
  go_upto_region 5 with (first | (go_at_call 104; refine hn.mono ?_; rintro e w2 ⟨rfl, h2, h3⟩; have H2 := hid h2; have H3 := hid (HK.out.trans h3); have H02 := hid (H0.out.kp h3 HNE0.out); have H12 := hid (H1.out.kp h3 HNE1.out); clear h2 h3 hn))
  have c2 := H2.out.cells.c2; have z2 := H2.out.cells.z2
  obtain ⟨q0, hq0⟩ : ∃ q, q = codeEnd s 7 (p + 1) := ⟨_, rfl⟩
  have HQ0 := hid hq0
  have hql := codeEnd_le s 7 (p + 1) hps
  rw [← hq0] at hql
  have HQL := hid hql
  have hq8 : q0 ≤ p + 8 := hq0 ▸ codeEnd_8 s 7 (p + 1)
  clear hq0 hql
  obtain ⟨u1, hu1⟩ : ∃ u : Iv, u = ⟨kN 1, ⟨#[]⟩, p, none, 0, 0⟩ := ⟨_, rfl⟩
  have hpos : u1.pos = (p : Int) := by rw [hu1]
  rw [← hu1] at H12
  go_upto_block 0 with (fail)
  obtain ⟨w3, hw3⟩ : ∃ W, W = w2.setCell ⟨rb, 2, none⟩ (.int .i64 ((p : Int) + 1)) := ⟨_, rfl⟩
  have HR3 := hid (show Rdr w3 rb s (p + 1) by rw [hw3]; exact H2.out.set1 (by omega))
  have HK3 := hid (show Kp rb w w3 by rw [hw3]; exact H3.out.set _)
  have H03 := hid (show ItB w3 a0 iv0 by rw [hw3]; exact H02.out.far (Ne.symm HNE0.out))
  have H13 := hid (show ItB w3 a1 u1 by rw [hw3]; exact H12.out.far (Ne.symm HNE1.out))
  rw [← hw3]
  clear hw3 c2 z2 H2 H3 H02 H12
  go_cut [] (fun wx => Hid (Rdr wx rb s q0) ∧ Hid (ItB wx a0 iv0) ∧ Hid (ItB wx a1 u1) ∧ Hid (Kp rb w wx))
  case first =>
    go_wp2_with fail
    go_loopw [5] (fun cv wr => ∃ q : Nat, (p + 1 ≤ q ∧ q ≤ s.size ∧ q ≤ p + 8) ∧ Hid (codeEnd s (p + 8 - q) q = q0) ∧ Hid (Rdr wr rb s q) ∧ Hid (ItB wr a0 iv0) ∧ Hid (ItB wr a1 u1) ∧ Hid (Kp rb w wr)) (fun _ wr => p + 8 - (intOf ((wr.cell? ⟨rb, 2, none⟩).getD undef)).toNat)
    case atStart => exact ⟨p + 1, ⟨by omega, by omega, by omega⟩, hid (by rw [HQ0.out]; congr 1; omega), HR3, H03, H13, HK3⟩
    case round =>
      obtain ⟨q, ⟨hq1, hq2, hq3⟩, hce, hR, hA, hB, hK⟩ := hrel
      have c2 := hR.out.cells.c2
      have k9 := hB.out.cells.k9
      rw [hpos] at k9
      by_cases hq : q < p + 8
      · have e1 : decide ((q : Int) - (p : Int) < 8) = true := decide_eq_true (by omega)
        have hn := fun n => HNX.out q (wr.drewN n) hR.out hq2
        have hst : codeEnd s (p + 8 - q) q = if alB (byt s q) = true then codeEnd s (p + 8 - (q + 1)) (q + 1) else q := by
          rw [show p + 8 - q = (p + 8 - (q + 1)) + 1 by omega]; rfl
        have hin : alB (byt s q) = true → q < s.size := fun h => al_in h
        rw [hce.out] at hst
        have hcs := al_cases (byt s q)
        generalize byt s q = b at hn hst hcs hin
        have HA := hid hA.out; have HB := hid hB.out; have HKK := hid hK.out; have HRR := hid hR.out
        have hQ1 := hid hq1; have hQ2 := hid hq2
        clear hce hR hA hB hK hq3
        go_upto_region 6 with (fail)
        go_quiet (fail)
        rcases hcs with ⟨ha, f1, f2⟩ | ⟨ha, f1, f2, f3, f4⟩ | ⟨ha, f1, f2, f3, f4⟩ | ⟨ha, f1, f2, f3⟩ | ⟨ha, f1, f2, f3, f4⟩ | ⟨ha, f1, f2, f3, f4, f5⟩ | ⟨ha, f1, f2, f3, f4, f5, f6⟩
        iterate 3
          · rw [if_pos ha] at hst
            have hq2' := hin ha
            have HST := hid hst
            clear hst ha hin
            go_wp2_with (first | (go_at_call 104; refine (NXdrew hn _).mono ?_; rintro e w4 ⟨rfl, h4, h5⟩; have H4 := hid h4; have H5 := hid h5; have c2 := h4.cells.c2; have z2 := h4.cells.z2; clear h4 h5 hn))
            go_roundw
            case rel => exact ⟨q + 1, ⟨by have := hQ1.out; omega, by omega, by omega⟩, HST.out.symm, H4.out.set1 (by omega), (HA.out.kp H5.out HNE0.out).far (Ne.symm HNE0.out), (HB.out.kp H5.out HNE1.out).far (Ne.symm HNE1.out), (HKK.out.trans H5.out).set _⟩
            case measure =>
              have m1 := HRR.out.cells.c2
              have m2 := (show Rdr (w4.setCell ⟨rb, 2, none⟩ (.int .i64 ((q : Int) + 1))) rb s (q + 1) from H4.out.set1 (by omega)).cells.c2
              rw [m1, m2]
              simp only [Option.getD_some, intOf]
              omega
        iterate 4
          · rw [if_neg (by simp [ha])] at hst
            have HST := hid hst
            clear hst ha hin
            go_wp2_with (first | (go_at_call 104; refine (NXdrew hn _).mono ?_; rintro e w4 ⟨rfl, h4, h5⟩; have H4 := hid h4; have H5 := hid h5; clear h4 h5 hn))
            go_meet
            rw [HST.out]
            exact ⟨H4.out, HA.out.kp H5.out HNE0.out, HB.out.kp H5.out HNE1.out, HKK.out.trans H5.out⟩
      · have e1 : decide ((q : Int) - (p : Int) < 8) = false := decide_eq_false (by omega)
        have hx := hid (show q = q0 by have := hce.out; rw [show p + 8 - q = 0 by omega] at this; exact this)
        clear hq
        go_upto_region 6 with (fail)
        go_quiet (fail)
        go_wp2_with fail
        go_meet
        rw [← hx.out]
        exact ⟨hid hR.out, hid hA.out, hid hB.out, hid (hK.out.drewN _)⟩
  obtain ⟨hR, hA, hB, hK⟩ := hcut
  obtain ⟨w5, hw5⟩ : ∃ W, W = wc := ⟨_, rfl⟩
  rw [← hw5] at hR hA hB hK
  rw [← hw5]
  have c1 := hR.out.cells.c1; have c2 := hR.out.cells.c2
  have k9 := hB.out.cells.k9
  rw [hpos] at k9
  have q1 : (p : Int) ≤ (q0 : Int) := by have := HQL.out.1; omega
  have q2 : (q0 : Int) ≤ (s.size : Int) := by have := HQL.out.2; omega
  have hsl := fun W => run_slice_pq s p q0 (by have := HQL.out.1; omega) HQL.out.2 W
  have HR5 := hid hR.out; have HA5 := hid hA.out; have HB5 := hid hB.out; have HK5 := hid hK.out
  clear hw5 HR3 HK3 H03 H13 hR hA hB hK
  go_upto_region 10 with (fail)
  clear c1 c2 k9
  refine region_perm 119 [0, 1, 2, 3, 4, 5, 6, 7, 8, 9, 10, 11] [12] (w0 := w5) (by kernel_rfl) (by kernel_rfl) rfl (Below.refl _ _) ?_
  apply Exists.intro
  refine ⟨?hq, ?ht⟩
  case hq =>
    intro wb hwb
    have cz := fun z : BW wb.heap.size wb => Up.trans hwb z.ok
    have c1 := fun z => (HR5.out.keep (cz z)).cells.c1
    have c2 := fun z => (HR5.out.keep (cz z)).cells.c2
    have k9 := fun z => (HB5.out.below (cz z)).cells.k9
    simp only [hpos] at k9
    clear cz
    simp only [List.map_cons, List.map_nil, List.getD_cons_zero, List.getD_cons_succ]
    repeat (go_big_quiet_step (fail))
    refine wpQuiet_nil ?_
    exact rfl
  case ht =>
    intro w' hw'
    have HR6 := hid (HR5.out.keep hw'); have HA6 := hid (HA5.out.below hw'); have HB6 := hid (HB5.out.below hw'); have HK6 := hid (HK5.out.trans (Kp.of_below hw'))
    have z8 := (HB5.out.below hw').cells.z8; have k8 := (HB5.out.below hw').cells.k8
    clear hw'
    simp only [List.map_cons, List.map_nil, List.getD_cons_zero, List.getD_cons_succ]
    obtain ⟨w7, hw7⟩ : ∃ W, W = w'.setCell ⟨a1, 8, none⟩ (.string (s.extract p q0)) := ⟨_, rfl⟩
    have HR7 := hid (show Rdr w7 rb s q0 by rw [hw7]; exact HR6.out.far HNE1.out)
    have HA7 := hid (show ItB w7 a0 iv0 by rw [hw7]; exact HA6.out.far (Ne.symm HN01.out))
    have HB7 := hid (show ItB w7 a1 { u1 with code := s.extract p q0 } by rw [hw7]; exact HB6.out.set_code)
    have HK7 := hid (show Kp rb w w7 by rw [hw7]; exact HK6.out.setNew (by have := HA0.out; have := HA1.out; omega) _)
    go_upto_region 11 with (fail)
    rw [← hw7]
    clear hw7 HR6 HA6 HB6 HK6 z8 k8 HR5 HA5 HB5 HK5 hsl q1 q2
    obtain ⟨u2, hu2⟩ : ∃ u : Iv, u = { u1 with code := s.extract p q0 } := ⟨_, rfl⟩
    rw [← hu2] at HB7
    have HU2 := hid (show u2 = ⟨kN 1, s.extract p q0, p, none, 0, 0⟩ by rw [hu2, hu1])
    clear hu2 hu1 hpos
    have hIS := is_any rb s q0 92 w7 HR7.out HQL.out.2 hs (by decide)
    have HM := hid (show isQ s 92 q0 ≤ s.size from (isQ_le (by decide) HQL.out.2).2)
    have HGQ := hid (show turnP s (isQ s 92 q0) = turnP s (isQ s 92 q0) from rfl)
    obtain ⟨mb, hmb⟩ : ∃ m, m = decide (byt s q0 = 92) := ⟨_, rfl⟩
    obtain ⟨q1, hq1⟩ : ∃ q, q = isQ s 92 q0 := ⟨_, rfl⟩
    rw [← hmb, ← hq1] at hIS
    rw [← hq1] at HM
    have HMB := hid hmb; have HQ1 := hid hq1
    clear hmb hq1 HGQ
    go_upto_region 12 with (first | (go_at_call 99; refine hIS.mono ?_; rintro e w8 ⟨rfl, h8, k8⟩; have H8 := hid h8; have HK8 := hid (HK7.out.trans k8); have HA8 := hid (HA7.out.kp k8 HNE0.out); have HB8 := hid (HB7.out.kp k8 HNE1.out); have z4 := (HB7.out.kp k8 HNE1.out).cells.z4; have c4 := (HB7.out.kp k8 HNE1.out).cells.k4; clear h8 k8 hIS HR7 HA7 HB7 HK7))
    obtain ⟨w9, hw9⟩ : ∃ W, W = w8.setCell ⟨a1, 4, none⟩ (.bool mb) := ⟨_, rfl⟩
    have HR9 := hid (show Rdr w9 rb s q1 by rw [hw9]; exact H8.out.far HNE1.out)
    have HA9 := hid (show ItB w9 a0 iv0 by rw [hw9]; exact HA8.out.far (Ne.symm HN01.out))
    have HB9 := hid (show ItB w9 a1 { u2 with nd := { u2.nd with mir := mb } } by rw [hw9]; exact HB8.out.set_mir)
    have HK9 := hid (show Kp rb w w9 by rw [hw9]; exact HK8.out.setNew (by have := HA0.out; have := HA1.out; omega) _)
    obtain ⟨u3, hu3⟩ : ∃ u : Iv, u = { u2 with nd := { u2.nd with mir := mb } } := ⟨_, rfl⟩
    rw [← hu3] at HB9
    have HU3 := hid hu3
    rw [← hw9]
    clear hw9 z4 c4 H8 HA8 HB8 HK8 hu3
    have hIT := is_any rb s q1 47 w9 HR9.out HM.out hs (by decide)
    go_upto_if 87 with (first | (go_at_call 99; refine hIT.mono ?_; rintro e w8 ⟨rfl, h8, k8⟩; have H8 := hid h8; have HK8 := hid (HK9.out.trans k8); have HA8 := hid (HA9.out.kp k8 HNE0.out); have HB8 := hid (HB9.out.kp k8 HNE1.out); clear h8 k8 hIT HR9 HA9 HB9 HK9))
    go_cut [] (fun wx => ∃ (t : Int) (q2 : Nat), Hid (turnP s q1 = .ok t q2) ∧ Hid (q2 ≤ s.size) ∧ Hid (Rdr wx rb s q2) ∧ Hid (ItB wx a0 iv0) ∧ Hid (ItB wx a1 { u3 with nd := { u3.nd with turn := t } }) ∧ Hid (Kp rb w wx))
    case first =>
      by_cases h47 : byt s q1 = 47
      · rw [show decide (byt s q1 = 47) = true from decide_eq_true h47]
        have HIQ := hid (show isQ s 47 q1 = q1 + 1 from if_pos h47)
        have HTP := hid (show turnP s q1 = digitP s 49 51 (q1 + 1) from if_pos h47)
        have hlt2 : q1 < s.size := byt_in h47 (by decide)
        rw [HIQ.out] at H8
        have hdg := digit_any rb s (q1 + 1) 49 51 w8 H8.out hlt2 hs (by decide)
        have hfw := digit_fwd (s := s) (lo := 49) (hi := 51) (p := q1 + 1) (by decide)
        clear h47 hlt2
        cases hd : digitP s 49 51 (q1 + 1) with
        | bad e0 =>
          rw [hd] at hdg HTP
          have HG2 := hid (show glyphP s p = .bad e0 from by
            rw [HGP.out]
            rw [← HQ0.out, ← HQ1.out, HTP.out])
          clear hd hfw
          go_wp2_with (first | (go_at_call 109; refine hdg.mono ?_; rintro e w9 ⟨⟨rfl, h9⟩, k9⟩; unfold wrongP; have H9 := hid h9; have K9 := hid (HK8.out.trans k9); clear h9 k9 hdg))
          exact ⟨rfl, ItP.bad HG2.out rfl H9.out K9.out⟩
        | ok t q2 =>
          rw [hd] at hdg HTP hfw
          have HF2 := hid hfw.2
          clear hd hfw
          have z3 := HB8.out.cells.z3
          go_wp2_with (first | (go_at_call 109; refine hdg.mono ?_; rintro e w9 ⟨⟨rfl, h9⟩, k9⟩; have H9 := hid h9; have K9 := hid (HK8.out.trans k9); have HA9 := hid (HA8.out.kp k9 HNE0.out); have HB9 := hid (HB8.out.kp k9 HNE1.out); have z3 := (HB8.out.kp k9 HNE1.out).cells.z3; have c3 := (HB8.out.kp k9 HNE1.out).cells.k3; clear h9 k9 hdg))
          go_meet
          exact ⟨t, q2, hid HTP.out, hid HF2.out, hid (H9.out.far HNE1.out), hid (HA9.out.far (Ne.symm HN01.out)), hid HB9.out.set_turn, hid (K9.out.setNew (by have := HA0.out; have := HA1.out; omega) _)⟩
      · rw [show decide (byt s q1 = 47) = false from decide_eq_false h47]
        have HIQ := hid (show isQ s 47 q1 = q1 from if_neg h47)
        have HTP := hid (show turnP s q1 = .ok 0 q1 from if_neg h47)
        rw [HIQ.out] at H8
        clear h47
        go_wp2_with fail
        go_meet
        exact ⟨0, q1, hid HTP.out, hid HM.out, hid H8.out, hid HA8.out, hid (by rw [show ({ u3 with nd := { u3.nd with turn := 0 } } : Iv) = u3 by rw [HU3.out, HU2.out]; rfl]; exact HB8.out), hid HK8.out⟩
    obtain ⟨t, q2, htp, hq2, hR, hA, hB, hK⟩ := hcut
    obtain ⟨wa, hwa⟩ : ∃ W, W = wc := ⟨_, rfl⟩
    rw [← hwa] at hR hA hB hK
    rw [← hwa]
    obtain ⟨u4, hu4⟩ : ∃ u : Iv, u = { u3 with nd := { u3.nd with turn := t } } := ⟨_, rfl⟩
    rw [← hu4] at hB
    have HU4 := hid hu4
    have HRa := hid hR.out; have HAa := hid hA.out; have HBa := hid hB.out; have HKa := hid hK.out
    clear hwa hu4 H8 HA8 HB8 HK8 hR hA hB hK
    have c0 := HRa.out.cells.c0
    have hn := HNX.out q2 wa HRa.out hq2.out
    have hb := byt_b s q2
    have hst := state_in (s := s) (q := q2)
    have HG2 := hid (show glyphP s p = .ok (glyphI s p q0 mb t (stateB (byt s q2))) (if stateB (byt s q2) = 0 then q2 else q2 + 1) from by
      rw [HGP.out]
      rw [← HQ0.out, ← HQ1.out, htp.out, HMB.out])
    generalize byt s q2 = b2 at hn hb hst HG2
    have hix := fun W => index_st b2 hb.1 hb.2 W
    have hta := fun W => ta_line W
    have hs0 : 0 ≤ stateB b2 ∧ stateB b2 ≤ 3 := stateB_b b2
    generalize stateB b2 = st at *
    have HST := hid hst; have HS0 := hid hs0
    have HU5 := hid (show ({ u4 with nd := { u4.nd with state := st } } : Iv) = ⟨⟨1, 0, 0, t, mb, st, 0, 0⟩, s.extract p q0, p, none, 0, 0⟩ from by rw [HU4.out, HU3.out, HU2.out]; rfl)
    have HAB := hid (show w.heap.size ≤ a1 by have := HA0.out; have := HA1.out; omega)
    have HAC := hid (show w.heap.size ≤ a0 by have := HA0.out; omega)
    have HS4 := hid (show u4.nd.state = 0 from by rw [HU4.out, HU3.out, HU2.out]; rfl)
    clear hst hs0 hb htp HMB HQ1 HU4 HU3 HU2
    by_cases h0 : st = 0
    · subst h0
      have HG3 := hid (show glyphP s p = .ok (glyphI s p q0 mb t 0) q2 from by rw [HG2.out]; rfl)
      have HU6 := hid (show u4 = ⟨⟨1, 0, 0, t, mb, 0, 0, 0⟩, s.extract p q0, p, none, 0, 0⟩ from by rw [← HU5.out, ← HS4.out])
      clear HU5 HG2 HST HS0
      go_upto_region 21 with (first | (go_at_call 104; refine hn.mono ?_; rintro e w9 ⟨rfl, h9, k9⟩; have H9 := hid h9; have K9 := hid (HKa.out.trans k9); have HA9 := hid (HAa.out.kp k9 HNE0.out); have HB9 := hid (HBa.out.kp k9 HNE1.out); clear h9 k9 hn) | (go_at_call 110; refine (hix _).mono ?_; rintro e w10 ⟨rfl, rfl⟩))
      go_wp2_with (first | (refine wp_load_it rfl (.tmp 3) rfl a1 0 u4 rfl HB9.out.range ?_) | (refine wp_store_it rfl (.tmp 2) (.tmp 118) rfl a0 iv0 u4 rfl rfl HA9.out ?_; intro wz hz gz))
      have hc := hz.cells
      have k0 := hc.k0; have k1 := hc.k1; have k2 := hc.k2; have k3 := hc.k3; have k4 := hc.k4; have k5 := hc.k5; have k6 := hc.k6; have k7 := hc.k7; have k8 := hc.k8; have k9 := hc.k9; have k10 := hc.k10
      refine bodyPost_ret (v := ivA u4) (by simp [results, Tryz.results108, go_sem, k0, k1, k2, k3, k4, k5, k6, k7, k8, k9, k10, ivA]) rfl ?_
      refine ItP.ok HG3.out rfl ?_ ((gz.block rb H9.out.lt (fun e => HNE0.out (by injection e with e; exact e.symm))).trans H9.out) (K9.out.grown gz fun k e => by injection e with e; subst e; exact HAC.out)
      rw [HU6.out]
      exact ItX.leaf (by decide) rfl
    · have HG3 := hid (show glyphP s p = .ok (glyphI s p q0 mb t st) (q2 + 1) from by rw [HG2.out, if_neg h0])
      have HI2 := hid (HST.out h0)
      have e1 : 0 ≤ st - 1 := by have := HS0.out; omega
      have e2 : decide (0 ≤ st - 1) = true := decide_eq_true e1
      have hst3 : st ≤ 3 := HS0.out.2
      have hst0 : 1 ≤ st := by omega
      have hq2s : (q2 : Int) ≤ 1000000 := by have := hq2.out; omega
      clear HG2 HST h0 e1
      go_upto_region 21 with (first | (go_at_call 104; refine hn.mono ?_; rintro e w9 ⟨rfl, h9, k9⟩; have H9 := hid h9; have K9 := hid (HKa.out.trans k9); have HA9 := hid (HAa.out.kp k9 HNE0.out); have HB9 := hid (HBa.out.kp k9 HNE1.out); have z5 := (HBa.out.kp k9 HNE1.out).cells.z5; have c5 := (HBa.out.kp k9 HNE1.out).cells.k5; have c2 := h9.cells.c2; have z2 := h9.cells.z2; clear h9 k9 hn) | (go_at_call 110; refine (hix _).mono ?_; rintro e w10 ⟨rfl, rfl⟩))
      obtain ⟨wb, hwb⟩ : ∃ W, W = (w10.setCell ⟨a1, 5, none⟩ (.int .i64 st)).setCell ⟨rb, 2, none⟩ (.int .i64 ((q2 : Int) + 1)) := ⟨_, rfl⟩
      have HRb := hid (show Rdr wb rb s (q2 + 1) by rw [hwb]; exact (H9.out.far HNE1.out).set1 (by omega))
      have HAb := hid (show ItB wb a0 iv0 by rw [hwb]; exact (HA9.out.far (Ne.symm HN01.out)).far (Ne.symm HNE0.out))
      have HBb := hid (show ItB wb a1 ⟨⟨1, 0, 0, t, mb, st, 0, 0⟩, s.extract p q0, p, none, 0, 0⟩ by rw [hwb, ← HU5.out]; exact HB9.out.set_state.far (Ne.symm HNE1.out))
      have HKb := hid (show Kp rb w wb by rw [hwb]; exact (K9.out.setNew HAB.out _).set _)
      rw [← hwb]
      clear hwb z5 c5 c2 z2 H9 HA9 HB9 K9 HU5
      obtain ⟨u6, hu6⟩ : ∃ u : Iv, u = ⟨⟨1, 0, 0, t, mb, st, 0, 0⟩, s.extract p q0, p, none, 0, 0⟩ := ⟨_, rfl⟩
      rw [← hu6] at HBb
      have HU6 := hid hu6
      clear hu6
      go_wp2_with (first | (refine wp_load_it rfl (.tmp 3) rfl a1 0 u6 rfl HBb.out.range ?_) | (refine wp_store_it rfl (.tmp 2) (.tmp 118) rfl a0 iv0 u6 rfl rfl HAb.out ?_; intro wz hz gz))
      have hc := hz.cells
      have k0 := hc.k0; have k1 := hc.k1; have k2 := hc.k2; have k3 := hc.k3; have k4 := hc.k4; have k5 := hc.k5; have k6 := hc.k6; have k7 := hc.k7; have k8 := hc.k8; have k9 := hc.k9; have k10 := hc.k10
      refine bodyPost_ret (v := ivA u6) (by simp [results, Tryz.results108, go_sem, k0, k1, k2, k3, k4, k5, k6, k7, k8, k9, k10, ivA]) rfl ?_
      refine ItP.ok HG3.out rfl ?_ ((gz.block rb HRb.out.lt (fun e => HNE0.out (by injection e with e; exact e.symm))).trans HRb.out) (HKb.out.grown gz fun k e => by injection e with e; subst e; exact HAC.out)
      rw [HU6.out]
      exact ItX.leaf (by decide) rfl
end Go.Proofs.YtimblabaeclhpaaGreat

/- WALK: the reader's leaf (printed by gen_leafr.py). -/
namespace Go.Proofs.YtimblabaeclhpaaGreat
open Go.RowKit
theorem kp_rdr {rb b q : Nat} {s : ByteArray} {w w' : World} (h : Rdr w rb s q) (hg : w.grownBy w' (some b)) (hn : b ≠ rb) : Rdr w' rb s q := (hg.block rb h.lt (fun e => hn (by injection e with e; exact e.symm))).trans h
theorem ItX.ret {N : Int} {n0 n2 a0 : Nat} {w3 wz : World} {u : Iv} {x : Itm} (hx : ItX N n2 [] w3 u x) (gz : w3.grownBy wz (some a0)) (h1 : a0 < n2) (h2 : n0 ≤ n2) : ItX N n0 [] wz u x :=
  (hx.grown gz fun r e => by injection e with e; subst e; exact .inl h1).more h2 (by simp)
/-- A result that lies in a block of its own. -/
theorem kp_new {rb b : Nat} {a w w' : World} (h : Kp rb a w) (hg : w.grownBy w' (some b)) (hb : a.heap.size ≤ b) : Kp rb a w' := h.grown hg fun k e => by injection e with e; subst e; exact hb
set_option maxRecDepth 100000 in
set_option maxHeartbeats 4000000 in
theorem leaf_anyR (rb : Nat) (s : ByteArray) (p : Nat) (w : World) (h : Rdr w rb s p) (hp : p ≤ s.size) (hs : s.size ≤ 1000000) :
    Calls Tryz.prog 107 #[.pointer (some ⟨rb, 0, none⟩)] w (ItP s rb w (leafP s p)) := by
  obtain ⟨W1, hW1⟩ : ∃ W1, W1 = w.alloc (.cells #[.int .i64 0, .int .i64 0, .int .i64 0, .int .i64 0, .bool false, .int .i64 0, .int .i64 0, .int .i64 0, .string ⟨#[]⟩, .int .i64 0, .slice none 0 0] 93) := ⟨_, rfl⟩
  have HB := hid (show Below w.heap.size w W1 by rw [hW1]; exact (Below.refl _ _).alloc (Nat.le_refl _) _)
  have HR := hid (h.keep HB.out)
  have H0 := hid (show ItB W1 w.heap.size iv0 by rw [hW1]; exact nwB rfl)
  have HK := hid (show Kp rb w W1 from Kp.of_below HB.out)
  have hlt := h.lt
  have hz : w.heap.size < W1.heap.size := by rw [hW1]; simp
  have hIS := is_any rb s p 123 W1 HR.out hp hs (by decide)
  have HDG := hid fun (q : Nat) (W : World) (h : Rdr W rb s q) (hq : q ≤ s.size) => digit_any rb s q 48 57 W h hq hs (by decide)
  have HMU := hid fun (q : Nat) (c : Int) (W : World) (h : Rdr W rb s q) (hq : q ≤ s.size) (hc : 0 < c) => must_any rb s q c W h hq hs hc
  have HW1 := hid hW1
  clear h hW1
  go_enter Tryz.func107, Tryz.ntmps107
  go_upto_region 1 with (fail)
  rw [← HW1.out]
  clear HW1
  obtain ⟨a0, ha0⟩ : ∃ a, a = w.heap.size := ⟨_, rfl⟩
  rw [← ha0] at H0 hz hlt
  rw [← ha0]
  have HNE0 := hid (show a0 ≠ rb by omega)
  have HA0 := hid (show w.heap.size ≤ a0 by omega)
  have HAE := hid ha0
  clear ha0 hlt hz
  by_cases hg : byt s p = 123
  rotate_left
  · have HX := hid (show leafP s p = glyphP s p from if_neg hg)
    rw [show decide (byt s p = 123) = false from decide_eq_false hg, show isQ s 123 p = p from if_neg hg] at hIS
    have HGL := hid fun (W : World) (h : Rdr W rb s p) => glyph_any rb s p W h hp hs
    clear hg HDG HMU
    unfold ItP at HGL
    cases hgp : glyphP s p with
    | bad e0 =>
      rw [hgp] at HGL HX
      simp only [] at HGL
      clear hgp
      go_wp2_with (first | (go_at_call 99; refine hIS.mono ?_; rintro e w2 ⟨rfl, h2, k2⟩; have H2 := hid h2; have K2 := hid (HK.out.trans k2); have H02 := hid (H0.out.kp k2 HNE0.out); clear h2 k2 hIS) | (go_at_call 108; refine (HGL.out _ H2.out).mono ?_; rintro e w3 ⟨⟨rfl, h3⟩, k3⟩; unfold wrongP; have H3 := hid h3; have K3 := hid (K2.out.trans k3); clear h3 k3))
      exact ⟨rfl, ItP.bad HX.out rfl H3.out K3.out⟩
    | ok x q =>
      rw [hgp] at HGL HX
      simp only [] at HGL
      clear hgp
      go_wp2_with (first | (go_at_call 99; refine hIS.mono ?_; rintro e w2 ⟨rfl, h2, k2⟩; have H2 := hid h2; have K2 := hid (HK.out.trans k2); have H02 := hid (H0.out.kp k2 HNE0.out); have hz2 := hid k2.size; clear h2 k2 hIS) | (go_at_call 108; refine (HGL.out _ H2.out).mono ?_; rintro e w3 ⟨⟨u, rfl, hx, h3⟩, k3⟩; have H3 := hid h3; have K3 := hid (K2.out.trans k3); have HX3 := hid hx; have H03 := hid (H02.out.kp k3 HNE0.out); have HSZ := hid H02.out.lt; clear h3 k3 hx) | (refine wp_store_it rfl (.tmp 2) (.tmp 8) rfl a0 iv0 u rfl rfl H03.out ?_; intro wz hz gz))
      have hc := hz.cells
      have k0 := hc.k0; have k1 := hc.k1; have k2 := hc.k2; have k3 := hc.k3; have k4 := hc.k4; have k5 := hc.k5; have k6 := hc.k6; have k7 := hc.k7; have k8 := hc.k8; have k9 := hc.k9; have k10 := hc.k10
      refine bodyPost_ret (v := ivA u) (by simp [results, Tryz.results107, go_sem, k0, k1, k2, k3, k4, k5, k6, k7, k8, k9, k10, ivA]) rfl ?_
      exact ItP.ok HX.out rfl (HX3.out.ret gz HSZ.out (Nat.le_of_lt (Nat.lt_of_le_of_lt HA0.out HSZ.out))) (kp_rdr H3.out gz HNE0.out) (kp_new K3.out gz HA0.out)
  · have hps : p < s.size := byt_in hg (by decide)
    have HX := hid (show leafP s p = _ from if_pos hg)
    rw [show decide (byt s p = 123) = true from decide_eq_true hg, show isQ s 123 p = p + 1 from if_pos hg] at hIS
    clear hg
    have hfw := digit_fwd (s := s) (lo := 48) (hi := 57) (p := p + 1) (by decide)
    go_upto_region 4 with (first | (go_at_call 99; refine hIS.mono ?_; rintro e w2 ⟨rfl, h2, k2⟩; have H2 := hid h2; have K2 := hid (HK.out.trans k2); have A2 := hid (H0.out.kp k2 HNE0.out); clear h2 k2 hIS))
    obtain ⟨w3, hw3⟩ : ∃ W, W = w2.alloc (.cells #[.int .i64 6, .int .i64 0, .int .i64 0, .int .i64 0, .bool false, .int .i64 0, .int .i64 0, .int .i64 0, .string ⟨#[]⟩, .int .i64 0, .slice none 0 0] 93) := ⟨_, rfl⟩
    obtain ⟨a1, ha1⟩ : ∃ a, a = w2.heap.size := ⟨_, rfl⟩
    have hb3 := (show Below w2.heap.size w2 w3 by rw [hw3]; exact (Below.refl _ _).alloc (Nat.le_refl _) _)
    have H3 := hid (H2.out.keep hb3)
    have A3 := hid (A2.out.below hb3)
    have B3 := hid (show ItB w3 a1 ⟨kN 6, ⟨#[]⟩, 0, none, 0, 0⟩ by rw [hw3, ha1]; exact nwB rfl)
    have K3 := hid (K2.out.trans (Kp.of_below hb3))
    have HNE1 := hid (show a1 ≠ rb by have := H2.out.lt; omega)
    have HN01 := hid (show a0 ≠ a1 by have := A2.out.lt; omega)
    have HA1 := hid (show w.heap.size ≤ a1 by have := A2.out.lt; have := HA0.out; omega)
    rw [← hw3, ← ha1]
    clear hw3 ha1 hb3 H2 A2 K2
    have hdg4 := HDG.out (p + 1) w3 H3.out hps
    cases hd : digitP s 48 57 (p + 1) with
    | bad e0 =>
      rw [hd] at hdg4 HX
      clear hd hfw
      go_wp2_with (first | (go_at_call 109; refine hdg4.mono ?_; rintro e w4 ⟨⟨rfl, h4⟩, k4⟩; unfold wrongP; have H4 := hid h4; have K4 := hid (K3.out.trans k4); clear h4 k4 hdg4))
      exact ⟨rfl, ItP.bad HX.out rfl H4.out K4.out⟩
    | ok a q =>
      rw [hd] at hdg4 HX hfw
      have hqs : q ≤ s.size := hfw.2
      clear hd hfw
      go_upto_region 5 with (first | (go_at_call 109; refine hdg4.mono ?_; rintro e w4 ⟨⟨rfl, h4⟩, k4⟩; have H4 := hid h4; have K4 := hid (K3.out.trans k4); have A4 := hid (A3.out.kp k4 HNE0.out); have B4 := hid (B3.out.kp k4 HNE1.out); have c6 := (B3.out.kp k4 HNE1.out).cells.k6; have z6 := (B3.out.kp k4 HNE1.out).cells.z6; clear h4 k4 hdg4))
      obtain ⟨w5, hw5⟩ : ∃ W, W = w4.setCell ⟨a1, 6, none⟩ (.int .i64 a) := ⟨_, rfl⟩
      have H5 := hid (show Rdr w5 rb s q by rw [hw5]; exact H4.out.far HNE1.out)
      have A5 := hid (show ItB w5 a0 iv0 by rw [hw5]; exact A4.out.far (Ne.symm HN01.out))
      have B5 := hid (show ItB w5 a1 ⟨⟨6, 0, 0, 0, false, 0, a, 0⟩, ⟨#[]⟩, 0, none, 0, 0⟩ by rw [hw5]; exact B4.out.set_mn)
      have K5 := hid (show Kp rb w w5 by rw [hw5]; exact K4.out.setNew HA1.out _)
      rw [← hw5]
      clear hw5 H3 A3 B3 K3 H4 A4 B4 K4 c6 z6
      have hmu := HMU.out q 45 w5 H5.out hqs (by decide)
      by_cases h45 : byt s q = 45
      rotate_left
      · simp only [if_neg h45] at hmu
        have HX2 := hid (show leafP s p = .bad q by rw [HX.out]; simp only [if_neg h45])
        clear h45
        go_wp2_with (first | (go_at_call 101; refine hmu.mono ?_; rintro e w6 ⟨⟨rfl, h6⟩, k6⟩; unfold wrongP; have H6 := hid h6; have K6 := hid (K5.out.trans k6); clear h6 k6 hmu))
        exact ⟨rfl, ItP.bad HX2.out rfl H6.out K6.out⟩
      · simp only [if_pos h45] at hmu
        have hx2 := HX.out
        simp only [if_pos h45] at hx2
        have HX2 := hid hx2
        clear hx2
        have hq1 : q < s.size := byt_in h45 (by decide)
        have hfw := digit_fwd (s := s) (lo := 48) (hi := 57) (p := q + 1) (by decide)
        clear h45 HX
        have HDG2 := hid fun (W : World) (h : Rdr W rb s (q + 1)) => HDG.out (q + 1) W h hq1
        cases hd : digitP s 48 57 (q + 1) with
        | bad e0 =>
          rw [hd] at HDG2 HX2
          clear hd hfw
          go_wp2_with (first | (go_at_call 101; refine hmu.mono ?_; rintro e w6 ⟨⟨rfl, h6⟩, k6⟩; have H6 := hid h6; have K6 := hid (K5.out.trans k6); clear h6 k6 hmu) | (go_at_call 109; refine (HDG2.out _ H6.out).mono ?_; rintro e w7 ⟨⟨rfl, h7⟩, k7⟩; unfold wrongP; have H7 := hid h7; have K7 := hid (K6.out.trans k7); clear h7 k7))
          exact ⟨rfl, ItP.bad HX2.out rfl H7.out K7.out⟩
        | ok b q2 =>
          rw [hd] at HDG2 HX2 hfw
          have hq2s : q2 ≤ s.size := hfw.2
          clear hd hfw
          go_upto_region 7 with (first | (go_at_call 101; refine hmu.mono ?_; rintro e w6 ⟨⟨rfl, h6⟩, k6⟩; have H6 := hid h6; have K6 := hid (K5.out.trans k6); have A6 := hid (A5.out.kp k6 HNE0.out); have B6 := hid (B5.out.kp k6 HNE1.out); clear h6 k6 hmu) | (go_at_call 109; refine (HDG2.out _ H6.out).mono ?_; rintro e w7 ⟨⟨rfl, h7⟩, k7⟩; have H7 := hid h7; have K7 := hid (K6.out.trans k7); have A7 := hid (A6.out.kp k7 HNE0.out); have B7 := hid (B6.out.kp k7 HNE1.out); have c7 := (B6.out.kp k7 HNE1.out).cells.k7; have z7 := (B6.out.kp k7 HNE1.out).cells.z7; clear h7 k7))
          obtain ⟨w8, hw8⟩ : ∃ W, W = w7.setCell ⟨a1, 7, none⟩ (.int .i64 b) := ⟨_, rfl⟩
          have H8 := hid (show Rdr w8 rb s q2 by rw [hw8]; exact H7.out.far HNE1.out)
          have A8 := hid (show ItB w8 a0 iv0 by rw [hw8]; exact A7.out.far (Ne.symm HN01.out))
          have B8 := hid (show ItB w8 a1 ⟨⟨6, 0, 0, 0, false, 0, a, b⟩, ⟨#[]⟩, 0, none, 0, 0⟩ by rw [hw8]; exact B7.out.set_mx)
          have K8 := hid (show Kp rb w w8 by rw [hw8]; exact K7.out.setNew HA1.out _)
          rw [← hw8]
          clear hw8 H5 A5 B5 K5 H6 A6 B6 K6 H7 A7 B7 K7 c7 z7
          have hmu := HMU.out q2 125 w8 H8.out hq2s (by decide)
          by_cases h125 : byt s q2 = 125
          rotate_left
          · simp only [if_neg h125] at hmu
            have HX3 := hid (show leafP s p = .bad q2 by rw [HX2.out]; simp only [if_neg h125])
            clear h125
            go_wp2_with (first | (go_at_call 101; refine hmu.mono ?_; rintro e w9 ⟨⟨rfl, h9⟩, k9⟩; unfold wrongP; have H9 := hid h9; have K9 := hid (K8.out.trans k9); clear h9 k9 hmu))
            exact ⟨rfl, ItP.bad HX3.out rfl H9.out K9.out⟩
          · simp only [if_pos h125] at hmu
            have HX3 := hid (show leafP s p = .ok (gapI a b) (q2 + 1) by rw [HX2.out]; simp only [if_pos h125])
            obtain ⟨u6, hu6⟩ : ∃ u : Iv, u = ⟨⟨6, 0, 0, 0, false, 0, a, b⟩, ⟨#[]⟩, 0, none, 0, 0⟩ := ⟨_, rfl⟩
            rw [← hu6] at B8
            have HU6 := hid hu6
            clear h125 hu6
            go_wp2_with (first | (go_at_call 101; refine hmu.mono ?_; rintro e w9 ⟨⟨rfl, h9⟩, k9⟩; have H9 := hid h9; have K9 := hid (K8.out.trans k9); have A9 := hid (A8.out.kp k9 HNE0.out); have B9 := hid (B8.out.kp k9 HNE1.out); clear h9 k9 hmu) | (refine wp_load_it rfl (.tmp 3) rfl a1 0 u6 rfl B9.out.range ?_) | (refine wp_store_it rfl (.tmp 2) (.tmp 23) rfl a0 iv0 u6 rfl rfl A9.out ?_; intro wz hz gz))
            have hc := hz.cells
            have k0 := hc.k0; have k1 := hc.k1; have k2 := hc.k2; have k3 := hc.k3; have k4 := hc.k4; have k5 := hc.k5; have k6 := hc.k6; have k7 := hc.k7; have k8 := hc.k8; have k9 := hc.k9; have k10 := hc.k10
            refine bodyPost_ret (v := ivA u6) (by simp [results, Tryz.results107, go_sem, k0, k1, k2, k3, k4, k5, k6, k7, k8, k9, k10, ivA]) rfl ?_
            refine ItP.ok HX3.out rfl ?_ (kp_rdr H9.out gz HNE0.out) (kp_new K9.out gz HA0.out)
            rw [HU6.out]
            exact ItX.leaf (by decide) rfl
end Go.Proofs.YtimblabaeclhpaaGreat
