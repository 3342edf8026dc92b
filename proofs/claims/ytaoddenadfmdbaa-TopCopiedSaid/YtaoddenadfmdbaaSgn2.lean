/- signs.checkValue: its closure, slices.IndexFunc and ContainsFunc over values. -/
import Derived.Test.YtaoddenadfmdbaaSgn
import Derived.Shelf.Abstract
namespace Go.Proofs.Ytaoddenadfmdbaa
open Go.RowKit
set_option maxRecDepth 100000 in
theorem clos_any (v x : Vl) (b : Nat) (w : World) (h : VlAt w b 0 v) (hb : b < w.heap.size) :
    Calls Try.prog 76 #[.agg #[.int .i64 x.kind, .string x.text, .int .i64 x.frm, .int .i64 x.to], .pointer (some ⟨b, 0, none⟩)] w fun e w' => e = .returned (.bool (meetB v x)) ∧ Below w.heap.size w w' := by
  have hm := hid (fun w3 => meet_any v x w3)
  have c1 := h.kind; have c2 := h.text; have c3 := h.frm; have c4 := h.to
  obtain ⟨k, t, f, g⟩ := v
  obtain ⟨k2, t2, f2, g2⟩ := x
  generalize meetB _ _ = r at hm ⊢
  simp only [] at hm c1 c2 c3 c4 ⊢
  have HB := hid ((Below.refl w.heap.size w).alloc (Nat.le_refl _) (.cells #[.int .i64 k2, .string t2, .int .i64 f2, .int .i64 g2] 86))
  clear h
  go_enter Try.func76, Try.ntmps76
  go_wp2_with (go_at_call 77; refine (hm.out _).mono ?_; rintro e w3 ⟨rfl, hb3⟩; have HB3 := hid (HB.out.trans (hb3.mono (by simp))); clear hb3)
  go_ret
  exact ⟨rfl, HB3.out⟩
set_option maxRecDepth 100000 in
set_option maxHeartbeats 1000000 in
theorem idx_any (l : List Vl) (v : Vl) (A : Option Addr) (c b : Nat) (hl : l.length ≤ 1000000) (w : World) (h : VlAt w b 0 v) (hb : b < w.heap.size) (r : Vls w w.heap.size A l) :
    Calls Try.prog 89 #[.slice A l.length c, .func (.func 76) #[] #[.pointer (some ⟨b, 0, none⟩)]] w fun e w' => (∃ i : Int, e = .returned (.int .i64 i) ∧ decide (0 ≤ i) = l.any (meetB v)) ∧ Below w.heap.size w w' := by
  have eg : ∀ args w, (callFunc 76 args).run Try.prog w = .ok (.enter 76 args) w := enters_of Try.func76 (by kernel_rfl) rfl
  obtain ⟨n, hn⟩ : ∃ n, n = l.length := ⟨_, rfl⟩
  rw [← hn] at hl ⊢
  have Hn := hid hn; have HV := hid h; have HR := hid r
  clear hn h r
  go_enter Try.func89, Try.ntmps89
  go_wp2_with fail
  go_loopw [8] (fun kv wr => ∃ k : Nat, k ≤ n ∧ kv = .int .i64 k ∧ Hid ((l.take k).any (meetB v) = false) ∧ Hid (Below w.heap.size w wr)) (fun kv _ => n - (intOf kv).toNat)
  case atStart => exact ⟨0, by omega, rfl, hid rfl, hid (Below.refl _ _)⟩
  case round =>
    obtain ⟨k, hk, rfl, hA, hB⟩ := hrel
    by_cases hkn : k < n
    · have hkl : k < l.length := by rw [← Hn.out]; exact hkn
      obtain ⟨b1, o1, hA1, hb1, hc1⟩ := HR.out.at (by omega)
      subst hA1
      have hx := (hc1 k hkl).below hB.out hb1
      have c1 := hx.kind; have c2 := hx.text; have c3 := hx.frm; have c4 := hx.to
      have hcl := hid (fun w3 (hb3 : Below w.heap.size w w3) => clos_any v l[k] b w3 (HV.out.below hb3 hb) (by have := hb3.size; omega))
      have hyes : meetB v l[k] = true → l.any (meetB v) = true := fun h => List.any_eq_true.2 ⟨_, List.getElem_mem hkl, h⟩
      have hno : meetB v l[k] = false → (l.take (k + 1)).any (meetB v) = false := fun h => by
        rw [List.take_add_one, List.getElem?_eq_getElem hkl, Option.toList_some, List.any_append, hA.out]
        simp [h]
      have q1 : (k : Int) < (n : Int) := by omega
      generalize meetB v l[k] = m at hcl hyes hno
      generalize l[k] = x at c1 c2 c3 c4 hcl
      obtain ⟨k2, t2, f2, g2⟩ := x
      simp only [] at c1 c2 c3 c4 hcl
      clear hx hc1
      cases m with
      | true =>
        have HY := hid (hyes rfl)
        clear hyes hno hA
        go_wp2_with (go_at_call 76; refine (hcl.out _ hB.out).mono ?_; rintro e w3 ⟨rfl, hb3⟩; have HB3 := hid (hB.out.trans (hb3.mono hB.out.size)); clear hb3)
        go_ret
        exact ⟨⟨k, rfl, by rw [HY.out]; simp⟩, HB3.out⟩
      | false =>
        have HY := hid (hno rfl)
        clear hyes hno hA
        go_wp2_with (go_at_call 76; refine (hcl.out _ hB.out).mono ?_; rintro e w3 ⟨rfl, hb3⟩; have HB3 := hid (hB.out.trans (hb3.mono hB.out.size)); clear hb3)
        go_roundw
        case rel => exact ⟨k + 1, by omega, by go_num, HY, HB3⟩
        case measure => simp [intOf]; omega
    · obtain rfl : n = k := by omega
      have hx := hA.out
      rw [Hn.out, List.take_length] at hx
      have HX := hid hx
      clear hx hA
      go_wp2_with fail
      go_ret
      exact ⟨⟨-1, rfl, by rw [HX.out]; rfl⟩, hB.out⟩
set_option maxRecDepth 100000 in
theorem contains_any (l : List Vl) (v : Vl) (A : Option Addr) (c b : Nat) (hl : l.length ≤ 1000000) (w : World) (h : VlAt w b 0 v) (hb : b < w.heap.size) (r : Vls w w.heap.size A l) :
    Calls Try.prog 75 #[.slice A l.length c, .func (.func 76) #[] #[.pointer (some ⟨b, 0, none⟩)]] w fun e w' => e = .returned (.bool (l.any (meetB v))) ∧ Below w.heap.size w w' := by
  have hi := hid (idx_any l v A c b hl w h hb r)
  generalize l.any (meetB v) = m at hi ⊢
  clear h r hl
  go_enter Try.func75, Try.ntmps75
  go_wp2_with (go_at_call 89; refine hi.out.mono ?_; rintro e w3 ⟨⟨i, rfl, hi⟩, hb3⟩; have HB3 := hid hb3; have HI := hid hi; clear hb3 hi)
  go_ret
  exact ⟨by rw [← HI.out]; rfl, HB3.out⟩
end Go.Proofs.Ytaoddenadfmdbaa

/- signs.checkValue and ostraconref01.sign. -/
namespace Go.Proofs.Ytaoddenadfmdbaa
open Go.RowKit
/-- The first error of some. -/
def firstE (f : Nat → Int) : Nat → Int
  | 0 => 0
  | n + 1 => if firstE f n ≠ 0 then firstE f n else f n
theorem firstE_s {f : Nat → Int} {k : Nat} (h : firstE f k = 0) (h2 : f k = 0) : firstE f (k + 1) = 0 := by rw [firstE, if_neg (by simp [h]), h2]
theorem firstE_at {f : Nat → Int} {k : Nat} (h : firstE f k = 0) (h2 : f k ≠ 0) : ∀ n, k < n → firstE f n = f k
  | n + 1, hn => by
    rw [firstE]
    rcases Nat.eq_or_lt_of_le (Nat.le_of_lt_succ hn) with rfl | h3
    · rw [if_neg (by simp [h])]
    · rw [firstE_at h h2 n h3, if_pos h2]
theorem firstE_get {f : Nat → Int} : ∀ {n : Nat}, firstE f n = 0 → ∀ k, k < n → f k = 0
  | n + 1, h, k, hk => by
    rw [firstE] at h
    split at h
    · rename_i h1
      exact absurd h h1
    · rename_i h1
      have h1 := Decidable.not_not.1 h1
      rcases Nat.eq_or_lt_of_le (Nat.le_of_lt_succ hk) with rfl | h3
      · exact h
      · exact firstE_get h1 k h3
/-- The error of a value behind others. -/
def valE (P : Int) (before : List Vl) (v : Vl) : Int :=
  if ¬ (1 ≤ v.kind ∧ v.kind ≤ 3 ∧ textB v.kind v.text = true) then 12 else if ¬ (1 ≤ v.frm ∧ v.frm ≤ v.to ∧ v.to ≤ P) then 13 else if before.any (meetB v) = true then 12 else 0
def vl (l : List Vl) (i : Nat) : Vl := l.getD i default
def valsE (P : Int) (l : List Vl) : Int := firstE (fun i => valE P (l.take i) (vl l i)) l.length
/-- The error of a sign but for its code. -/
def sgE (P : Int) (s : Sg) : Int := if ¬ ((1 ≤ s.wide ∧ s.wide ≤ 12) ∧ 1 ≤ s.high ∧ s.high ≤ 12) then 11 else if 12 < s.vals.length then 2 else valsE P s.vals
set_option maxRecDepth 100000 in
set_option maxHeartbeats 2000000 in
theorem checkValue_any (P : Int) (S : Value) (l : List Vl) (v : Vl) (A : Option Addr) (c : Nat) (hl : l.length ≤ 1000000) (w : World) (r : Vls w w.heap.size A l) :
    Calls Try.prog 65 #[.agg #[.int .i64 P, S], .slice A l.length c, .agg #[.int .i64 v.kind, .string v.text, .int .i64 v.frm, .int .i64 v.to]] w fun e w' => e = .returned (.int .i64 (valE P l v)) ∧ Below w.heap.size w w' := by
  obtain ⟨E, hE⟩ : ∃ E, E = valE P l v := ⟨_, rfl⟩
  rw [← hE]
  unfold valE at hE
  have hcon := fun (W : World) (b : Nat) (hv : VlAt W b 0 v) (hb : b < W.heap.size) (hr : Vls W W.heap.size A l) => contains_any l v A c b hl W hv hb hr
  have hvt := fun W => validText_any v.kind v.text W
  generalize l.any (meetB v) = m at hE hcon
  generalize textB v.kind v.text = x at hE hvt
  have hb1 : ∀ (o1 o2 : Obj), Below w.heap.size w ((w.alloc o1).alloc o2) := fun o1 o2 => ((Below.refl _ _).alloc (Nat.le_refl _) _).alloc (by simp) _
  have hcon2 := fun (S : Value) =>
    let W := (w.alloc (.cells #[.int .i64 P, S] 24)).alloc (.cells #[.int .i64 v.kind, .string v.text, .int .i64 v.frm, .int .i64 v.to] 86)
    hcon W (w.heap.size + 1) (by obtain ⟨k, t, f, g⟩ := v; refine ⟨?_, ?_, ?_, ?_⟩ <;> simp [W]) (by simp [W]) ((r.below (hb1 _ _)).more (by simp [W]; omega))
  have HC := hid (hcon2 S); have HT := hid hvt; have HE := hid hE; have HB := hid (hb1 (.cells #[.int .i64 P, S] 24) (.cells #[.int .i64 v.kind, .string v.text, .int .i64 v.frm, .int .i64 v.to] 86))
  clear hcon hcon2 hvt hE hb1 r
  obtain ⟨k, t, f, g⟩ := v
  simp only [] at HC HT HE HB ⊢
  obtain ⟨N, hN⟩ : ∃ N, N = l.length := ⟨_, rfl⟩
  rw [← hN] at HC ⊢
  clear hN hl
  cases x <;> cases m <;> simp only [Bool.false_eq_true, and_false, not_false_eq_true, if_true, and_true, if_false] at HE
  all_goals
    go_enter Try.func65, Try.ntmps65
    go_wp2_with (first
      | (go_at_call 74; refine (HT.out _).mono ?_; rintro e w3 ⟨rfl, rfl⟩)
      | (go_at_call 75; refine HC.out.mono ?_; rintro e w3 ⟨rfl, hb3⟩; have HB3 := hid (HB.out.trans (hb3.mono (by simp; omega))); clear hb3))
    all_goals
      go_ret
      refine ⟨congrArg (fun x => Ending.returned (.int .i64 x)) (Eq.trans ?_ HE.out.symm), by first | exact HB3.out | exact HB.out⟩
      first | rfl | ((repeat' split) <;> first | rfl | (exfalso; omega))
end Go.Proofs.Ytaoddenadfmdbaa

/- ostraconref01.sign. -/
namespace Go.Proofs.Ytaoddenadfmdbaa
open Go.RowKit
theorem vl_at {l : List Vl} {i : Nat} (h : i < l.length) : vl l i = l[i] := by unfold vl; rw [List.getD_eq_getElem?_getD, List.getElem?_eq_getElem h]; rfl
theorem any_take_s {l : List Vl} {f : Vl → Bool} {j : Nat} (hj : j < l.length) (h : (l.take j).any f = false) (h2 : f l[j] = false) : (l.take (j + 1)).any f = false := by
  rw [List.take_add_one, List.getElem?_eq_getElem hj, Option.toList_some, List.any_append, h]
  simp [h2]
theorem any_take_at {l : List Vl} {f : Vl → Bool} {j k : Nat} (hj : j < l.length) (hk : j < k) (h2 : f l[j] = true) : (l.take k).any f = true :=
  List.any_eq_true.2 ⟨l[j], List.mem_take_iff_getElem.2 ⟨j, by omega, rfl⟩, h2⟩
set_option maxRecDepth 100000 in
set_option maxHeartbeats 4000000 in
theorem sign_any (P : Int) (s : Sg) (hl : s.vals.length ≤ 9223372036854775807) (w : World) (r : Vls w w.heap.size s.va s.vals) :
    Calls Try.prog 22 #[.agg #[.string s.code, .int .i64 s.wide, .int .i64 s.high, .bool s.even, .slice s.va s.vals.length s.vc], .int .i64 P] w fun e w' => e = .returned (.int .i64 (sgE P s)) ∧ Below w.heap.size w w' := by
  obtain ⟨E, hE⟩ : ∃ E, E = sgE P s := ⟨_, rfl⟩
  rw [← hE]
  unfold sgE at hE
  obtain ⟨code, wide, high, even, l, va, vc⟩ := s
  simp only [] at hl r hE ⊢
  obtain ⟨w1, hw1⟩ : ∃ w1, w1 = w.alloc (.cells #[.string code, .int .i64 wide, .int .i64 high, .bool even, .slice va l.length vc] 56) := ⟨_, rfl⟩
  have hb1 : Below w.heap.size w w1 := by rw [hw1]; exact (Below.refl _ _).alloc (Nat.le_refl _) _
  have hz1 : w1.heap.size = w.heap.size + 1 := by rw [hw1]; simp
  have hc4 : w1.cell? ⟨w.heap.size, 4, none⟩ = some (.slice va l.length vc) := by rw [hw1]; simp
  have r1 : Vls w1 w1.heap.size va l := (r.below hb1).more (by omega)
  have HE := hid hE; have HB1 := hid hb1; have HC4 := hid hc4; have HR := hid r1; have HZ1 := hid hz1; have HW1 := hid hw1
  clear hE hb1 hc4 r r1 hz1 hw1
  obtain ⟨n, hn⟩ : ∃ n, n = l.length := ⟨_, rfl⟩
  rw [← hn] at hl HC4 HE HW1 ⊢
  have HN := hid hn
  clear hn
  go_enter Try.func22, Try.ntmps22
  go_wp2_with fail
  all_goals try (go_ret; exact ⟨by rw [HE.out]; first | rfl | ((repeat' split) <;> first | rfl | (exfalso; omega)), by rw [← HW1.out]; exact HB1.out⟩)
  have HE2 : Hid (E = valsE P l) := by rw [HE.out]; exact by first | rfl | ((repeat' split) <;> first | rfl | (exfalso; omega))
  rw [← HW1.out]
  clear HE
  have HCW := hid fun (wr : World) (h : Below w1.heap.size w1 wr) => (h.cell (p := ⟨w.heap.size, 4, none⟩) (by have := HZ1.out; simp; omega)).trans HC4.out
  have HW : Hid (∀ wr, Below w1.heap.size w1 wr → Below w.heap.size w wr) := fun wr h => HB1.out.trans (h.mono (by have := HZ1.out; omega))
  clear HW1 HB1 HC4
  obtain ⟨B0, hB0⟩ : ∃ B0, B0 = w.heap.size := ⟨_, rfl⟩
  rw [← hB0] at HCW HZ1 ⊢
  clear hB0
  go_loopw [5] (fun kv wr => ∃ k : Nat, k ≤ n ∧ kv = .int .i64 k ∧ Hid (firstE (fun i => valE P (l.take i) (vl l i)) k = 0) ∧ Hid (Below w1.heap.size w1 wr)) (fun kv _ => n - (intOf kv).toNat)
  case atStart => exact ⟨0, by omega, rfl, hid rfl, hid (Below.refl _ _)⟩
  case round =>
    obtain ⟨k, hk, rfl, hF, hB⟩ := hrel
    have cc := HCW.out wr hB.out
    by_cases hkn : k < n
    · have hkl : k < l.length := by rw [← HN.out]; exact hkn
      obtain ⟨b1, o1, hA1, hb1, hcA⟩ := HR.out.at (by omega)
      subst hA1
      have hx := (hcA k hkl).below hB.out hb1
      have c1 := hx.kind; have c2 := hx.text; have c3 := hx.frm; have c4 := hx.to
      obtain ⟨v, hv⟩ : ∃ v, v = l[k] := ⟨_, rfl⟩
      rw [← hv] at c1 c2 c3 c4
      obtain ⟨E2, hE2⟩ : ∃ E2, E2 = valE P (l.take k) v := ⟨_, rfl⟩
      have hfk : valE P (l.take k) (vl l k) = E2 := by
        rw [vl_at hkl, ← hv, hE2]
      have hbad : E2 ≠ 0 → E = E2 := fun h => by
        rw [HE2.out]
        unfold valsE
        rw [firstE_at hF.out (by rw [hfk]; exact h) _ hkl, hfk]
      have hgood : E2 = 0 → firstE (fun i => valE P (l.take i) (vl l i)) (k + 1) = 0 := fun h => firstE_s hF.out (by rw [hfk]; exact h)
      unfold valE at hE2
      have hmj : ∀ (j : Nat) (hj : j < l.length) (b : Bool), meetB l[j] v = b → meetB v l[j] = b := fun j hj b h => by rw [meetB_comm]; exact h
      have hrt := fun W => right_any v.kind v.text W
      have hco := fun (j : Nat) (hj : j < l.length) W => collide_any l[j] v W
      have hq : (k : Int) < (n : Int) := by omega
      have HC := hid hcA; have HBAD := hid hbad; have HGOOD := hid hgood; have HE3 := hid hE2; have HMJ := hid hmj; have HCO := hid hco
      clear hx hfk hbad hgood hE2 hmj hco hF hcA
      generalize hxx : textB v.kind v.text = x at hrt
      rw [hxx] at HE3
      have HRT := hid hrt
      clear hxx hrt
      obtain ⟨kd, tx, fr, to⟩ := v
      simp only [] at c1 c2 c3 c4 HE3 HRT HMJ HCO HBAD HGOOD hv
      have HV := hid hv
      clear hv
      have HBA := hid fun o => hB.out.alloc hB.out.size o
      have HSZ := hid hB.out.size
      cases x <;> simp only [Bool.false_eq_true, and_false, not_false_eq_true, if_true, and_true] at HE3
      · go_wp2_with (go_at_call 32; refine (HRT.out _).mono ?_; rintro e w3 ⟨rfl, rfl⟩)
        all_goals
          go_ret
          exact ⟨congrArg (fun x => Ending.returned (.int .i64 x)) (by rw [HBAD.out (by rw [HE3.out]; decide), HE3.out]), HW.out _ (HBA.out _)⟩
      · go_wp2_with (go_at_call 32; refine (HRT.out _).mono ?_; rintro e w3 ⟨rfl, rfl⟩)
        all_goals try (go_ret; refine ⟨?_, HW.out _ (HBA.out _)⟩; have hEE := HE3.out; rw [if_pos (by omega)] at hEE; exact congrArg (fun x => Ending.returned (.int .i64 x)) (by rw [HBAD.out (by rw [hEE]; decide), hEE]))
        all_goals try (go_ret; refine ⟨?_, HW.out _ (HBA.out _)⟩; have hEE := HE3.out; rw [if_neg (by omega), if_pos (by omega)] at hEE; exact congrArg (fun x => Ending.returned (.int .i64 x)) (by rw [HBAD.out (by rw [hEE]; decide), hEE]))
        have HE4 : Hid (E2 = if (l.take k).any (meetB ⟨kd, tx, fr, to⟩) = true then 12 else 0) := by
          rw [HE3.out, if_neg (by omega), if_neg (by omega)]
          exact hid rfl
        obtain ⟨w3, hw3⟩ : ∃ w3, w3 = wr.alloc (.cells #[.int .i64 kd, .string tx, .int .i64 fr, .int .i64 to] 86) := ⟨_, rfl⟩
        have HV3 : Hid (VlAt w3 wr.heap.size 0 ⟨kd, tx, fr, to⟩) := by rw [hw3]; exact hid (by refine ⟨?_, ?_, ?_, ?_⟩ <;> simp)
        have HB3 : Hid (Below w1.heap.size w1 w3) := by rw [hw3]; exact hid (HBA.out _)
        have HZ3 : Hid (wr.heap.size < w3.heap.size) := by rw [hw3]; exact hid (by simp)
        rw [← hw3]
        clear HE3 HRT HBA c1 c2 c3 c4 cc hw3
        obtain ⟨B3, hB3⟩ : ∃ B3, B3 = wr.heap.size := ⟨_, rfl⟩
        rw [← hB3] at HV3 HZ3 ⊢
        clear hB3
        go_loopw [7] (fun jv w7 => ∃ j : Nat, j ≤ k ∧ jv = .int .i64 j ∧ Hid ((l.take j).any (meetB ⟨kd, tx, fr, to⟩) = false) ∧ Hid (Below w3.heap.size w3 w7)) (fun jv _ => k - (intOf jv).toNat)
        case atStart => exact ⟨0, by omega, rfl, hid rfl, hid (Below.refl _ _)⟩
        case round =>
          obtain ⟨j, hj, rfl, hF7, hB7⟩ := hrel
          by_cases hjk : j < k
          · have hjl : j < l.length := by omega
            have hq7 : (j : Int) < (k : Int) := by omega
            have hqn : (j : Int) < (n : Int) := by omega
            have hbz : ∀ z : BW w3.heap.size wr, Below w1.heap.size w1 z.val := fun z => HB3.out.trans ((hB7.out.trans z.ok).mono HB3.out.size)
            have hx := fun z : BW w3.heap.size wr => (HC.out j hjl).below (hbz z) hb1
            have hy := fun z : BW w3.heap.size wr => HV3.out.below (hB7.out.trans z.ok) HZ3.out
            have d1 := fun z => (hx z).kind; have d2 := fun z => (hx z).text; have d3 := fun z => (hx z).frm; have d4 := fun z => (hx z).to
            have e1 := fun z => (hy z).kind; have e2 := fun z => (hy z).text; have e3 := fun z => (hy z).frm; have e4 := fun z => (hy z).to
            have cz := fun z : BW w3.heap.size wr => HCW.out z.val (hbz z)
            have ho := below_class hB7.out.size (v := .bool (meetB l[j] ⟨kd, tx, fr, to⟩)) (fun z => HCO.out j hjl z.val)
            obtain ⟨m, hm⟩ : ∃ m, m = meetB l[j] ⟨kd, tx, fr, to⟩ := ⟨_, rfl⟩
            rw [← hm] at ho
            have hm2 := HMJ.out j hjl m hm.symm
            have hyes : m = true → E2 = 12 := fun h => by rw [HE4.out, if_pos (any_take_at hjl hjk (by rw [hm2, h]))]
            have hno : m = false → (l.take (j + 1)).any (meetB ⟨kd, tx, fr, to⟩) = false := fun h => any_take_s hjl hF7.out (by rw [hm2, h])
            have HO := hid ho; have HYES := hid hyes; have HNO := hid hno; have HBZ := hid hbz
            clear ho hyes hno hm2 hbz hx hy hF7
            generalize l[j] = u at d1 d2 d3 d4 HO hm
            clear hm
            obtain ⟨k2, t2, f2, g2⟩ := u
            simp only [Nat.zero_add] at d1 d2 d3 d4 e1 e2 e3 e4 HO
            have HB := hid (Below.refl w3.heap.size wr)
            go_wp2_with fail
            refine region_below (by kernel_rfl) (by kernel_rfl) HB.out ?_
            repeat (go_big_quiet_step ((go_at_call 33; go_must (exact (HO.out _)))))
            refine wpQuiet_nil ?_
            intro _ hw'
            obtain ⟨z, rfl⟩ := hw'
            have HZ := hid (HBZ.out z)
            have HZ2 := hid (hB7.out.trans z.ok)
            clear d1 d2 d3 d4 e1 e2 e3 e4 cz HO HB
            cases m with
            | true =>
              have HY := hid (HYES.out rfl)
              clear HYES HNO
              go_wp2_with fail
              go_ret
              exact ⟨congrArg (fun x => Ending.returned (.int .i64 x)) (by rw [HBAD.out (by rw [HY.out]; decide), HY.out]), HW.out _ HZ.out⟩
            | false =>
              have HY := hid (HNO.out rfl)
              clear HYES HNO
              go_wp2_with fail
              go_roundw
              case rel => exact ⟨j + 1, by omega, by go_num, HY.out, HZ2.out⟩
              case measure => simp [intOf]; omega
          · obtain rfl : j = k := by omega
            have HG := hid (HGOOD.out (by rw [HE4.out, if_neg (by rw [hF7.out]; simp)]))
            have HB7 := hid (HB3.out.trans (hB7.out.mono HB3.out.size))
            clear hF7
            go_wp2_with fail
            go_roundw
            case rel => exact ⟨j + 1, by omega, by go_num, HG.out, HB7.out⟩
            case measure => simp [intOf]; omega
    · obtain rfl : n = k := by omega
      have HX : Hid (E = 0) := by
        rw [HE2.out]
        unfold valsE
        rw [← HN.out]
        exact hF.out
      clear hF
      go_wp2_with fail
      go_ret
      exact ⟨congrArg (fun x => Ending.returned (.int .i64 x)) (by rw [HX.out]), HW.out _ hB.out⟩
end Go.Proofs.Ytaoddenadfmdbaa

/- ostraconref01.index and ostraconref01.Check. -/
namespace Go.Proofs.Ytaoddenadfmdbaa
open Go.RowKit
/-- The first number at which f holds; -1: there is none. -/
def idxTo (f : Nat → Bool) : Nat → Int
  | 0 => -1
  | n + 1 => if idxTo f n ≠ -1 then idxTo f n else if f n = true then n else -1
theorem idxTo_s {f : Nat → Bool} {k : Nat} (h : idxTo f k = -1) (h2 : f k = false) : idxTo f (k + 1) = -1 := by
  rw [idxTo, if_neg (by simp [h]), if_neg (by simp [h2])]
theorem idxTo_at {f : Nat → Bool} {k : Nat} (h : idxTo f k = -1) (h2 : f k = true) : ∀ n, k < n → idxTo f n = k
  | n + 1, hn => by
    rw [idxTo]
    rcases Nat.eq_or_lt_of_le (Nat.le_of_lt_succ hn) with rfl | h3
    · rw [if_neg (by simp [h]), if_pos h2]
    · rw [idxTo_at h h2 n h3, if_pos (by omega)]
theorem idxTo_lt {f : Nat → Bool} : ∀ n : Nat, idxTo f n < n
  | 0 => by show (-1 : Int) < ((0 : Nat) : Int); omega
  | n + 1 => by
    rw [idxTo]
    have := idxTo_lt (f := f) n
    split
    · omega
    · split <;> omega
theorem idxTo_more {f : Nat → Bool} {k : Nat} (h : idxTo f k ≠ -1) : ∀ n, k ≤ n → idxTo f n = idxTo f k
  | 0, hn => by rw [show k = 0 by omega]
  | n + 1, hn => by
    rcases Nat.eq_or_lt_of_le hn with rfl | h3
    · rfl
    · rw [idxTo, idxTo_more h n (by omega), if_pos h]
def sg (l : List Sg) (i : Nat) : Sg := l.getD i default
theorem sg_at {l : List Sg} {i : Nat} (h : i < l.length) : sg l i = l[i] := by unfold sg; rw [List.getD_eq_getElem?_getD, List.getElem?_eq_getElem h]; rfl
def sameC (l : List Sg) (t : ByteArray) (j : Nat) : Bool := (sg l j).code.toList == t.toList
/-- Has a sign before i the code of i? -/
def seenB (l : List Sg) (i : Nat) : Bool := decide (idxTo (sameC l (sg l i).code) i ≠ -1)
def idxC (l : List Sg) (t : ByteArray) : Int := idxTo (sameC l t) l.length
theorem seen_eq {l : List Sg} {i : Nat} (hi : i < l.length) : decide (idxC l (sg l i).code < i) = seenB l i := by
  unfold seenB idxC
  by_cases h : idxTo (sameC l (sg l i).code) i = -1
  · rw [idxTo_at h (by unfold sameC; simp) _ hi]
    simp [h]
  · rw [idxTo_more h _ (by omega)]
    have := idxTo_lt (f := sameC l (sg l i).code) i
    simp [h, this]
def sgnE (P : Int) (l : List Sg) (i : Nat) : Int := if codeB (sg l i).code = true ∧ seenB l i = false then sgE P (sg l i) else 10
/-- The error of a list. -/
def listE (P : Int) (l : List Sg) : Int := if 200 < l.length then 2 else if ¬ (1 ≤ P ∧ P ≤ 9) then 13 else firstE (sgnE P l) l.length
set_option maxRecDepth 100000 in
set_option maxHeartbeats 2000000 in
theorem index_any (P : Int) (l : List Sg) (t : ByteArray) (hl : l.length ≤ 1000000) (A : Option Addr) (c : Nat) (w : World) (r : Sgs w w.heap.size A l) :
    Calls Try.prog 21 #[.agg #[.int .i64 P, .slice A l.length c], .string t] w fun e w' => e = .returned (.int .i64 (idxC l t)) ∧ Below w.heap.size w w' := by
  obtain ⟨w1, hw1⟩ : ∃ w1, w1 = w.alloc (.cells #[.int .i64 P, .slice A l.length c] 24) := ⟨_, rfl⟩
  have hb1 : Below w.heap.size w w1 := by rw [hw1]; exact (Below.refl _ _).alloc (Nat.le_refl _) _
  have cc : w1.cell? ⟨w.heap.size, 1, none⟩ = some (.slice A l.length c) := by rw [hw1]; simp
  have r1 : Sgs w1 w.heap.size A l := r.below hb1
  obtain ⟨n, hn⟩ : ∃ n, n = l.length := ⟨_, rfl⟩
  obtain ⟨E, hE⟩ : ∃ E, E = idxC l t := ⟨_, rfl⟩
  rw [← hE]
  unfold idxC at hE
  rw [← hn] at hl cc hE hw1 ⊢
  have HW1 := hid hw1; have HB1 := hid hb1; have HR := hid r1; have HN := hid hn; have HE := hid hE
  clear hw1 hb1 r r1 hn hE
  go_enter Try.func21, Try.ntmps21
  go_wp2_with fail
  rw [← HW1.out]
  obtain ⟨B0, hB0⟩ : ∃ B0, B0 = w.heap.size := ⟨_, rfl⟩
  have HB1 := HB1
  rw [← hB0] at cc HR HB1 ⊢
  have HBE : Hid (Below w.heap.size w w1) := by rw [← hB0]; exact HB1
  clear hB0 HW1
  go_loopw [5] (fun kv wr => ∃ k : Nat, k ≤ n ∧ kv = .int .i64 k ∧ Hid (idxTo (sameC l t) k = -1) ∧ ∃ q, wr = w1.drewN q) (fun kv _ => n - (intOf kv).toNat)
  case atStart => exact ⟨0, by omega, rfl, hid rfl, 0, rfl⟩
  case round =>
    obtain ⟨k, hk, rfl, hF, q, rfl⟩ := hrel
    by_cases hkn : k < n
    · have hkl : k < l.length := by rw [← HN.out]; exact hkn
      obtain ⟨b1, o1, hA1, hb1, hcA⟩ := HR.out.at (by omega)
      subst hA1
      have c1 := (hcA k hkl).code
      have hq : (k : Int) < (n : Int) := by omega
      obtain ⟨m, hm⟩ : ∃ m, m = sameC l t k := ⟨_, rfl⟩
      have hyes : m = true → E = k := fun h => by rw [HE.out]; exact idxTo_at hF.out (by rw [← hm, h]) _ hkn
      have hno : m = false → idxTo (sameC l t) (k + 1) = -1 := fun h => idxTo_s hF.out (by rw [← hm, h])
      have HYES := hid hyes; have HNO := hid hno
      unfold sameC at hm
      rw [sg_at hkl] at hm
      generalize l[k].code = u at c1 hm
      clear hyes hno hcA hF HE
      cases m with
      | true =>
        have HY := hid (HYES.out rfl)
        have e1 : (u.toList == t.toList) = true := hm.symm
        clear HYES HNO hm
        go_wp2_with fail
        go_ret
        exact ⟨congrArg (fun x => Ending.returned (.int .i64 x)) HY.out.symm, below_drewN HBE.out _⟩
      | false =>
        have HY := hid (HNO.out rfl)
        have e1 : (u.toList == t.toList) = false := hm.symm
        clear HYES HNO hm
        go_wp2_with fail
        go_roundw
        case rel => exact ⟨k + 1, by omega, by go_num, HY.out, _, rfl⟩
        case measure => simp [intOf]; omega
    · obtain rfl : n = k := by omega
      have HX := hid (HE.out.trans hF.out)
      clear hF HE
      go_wp2_with fail
      go_ret
      exact ⟨congrArg (fun x => Ending.returned (.int .i64 x)) HX.out.symm, below_drewN HBE.out _⟩
end Go.Proofs.Ytaoddenadfmdbaa
