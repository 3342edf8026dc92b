/- WALK: the tests of an edge, and whether two edges fit. -/
import Derived.Test.YtoljnbbhoeloeaaCheck
import Derived.Test.YtoljnbbhoeloeaaFair
import Derived.Test.YtoljnbbhoeloeaaCheckL
import Derived.Test.YtoljnbbhoeloeaaVarW
import Derived.Test.YtoljnbbhoeloeaaGcd
namespace Go.Proofs.Ytoljnbbhoeloeaa
open Go.RowKit Go.Shelf Go.Lib
def outB (x : Int) : Bool := !decide (0 ≤ x ∧ x ≤ 1000)
def edgeOk (l : List Int) : Bool := decide (l.length ≤ 12) && !l.any outB
theorem edge_closure (W : World) (x : Int) : Calls Try.prog 84 #[.int .i64 x] W fun e w' => e = .returned (.bool (outB x)) ∧ ∃ q, w' = W.drewN q := by
  go_enter Try.func84, Try.ntmps84
  go_wp2_with (go_at_call 61; refine (within_any _ _ _ _).mono ?_; rintro e w' ⟨rfl, rfl⟩)
  all_goals
    go_ret
    exact ⟨by simp [outB], 0, rfl⟩
theorem contains_out (l : List Int) (A : Option Addr) (c : Nat) (hl : l.length ≤ 60) (w : World) (B : Nat) (r : Rd w B A l) :
    Calls Try.prog 74 #[.slice A l.length c, .func (.func 84) #[] #[]] w fun e w' => e = .returned (.bool (l.any outB)) ∧ ∃ q, w' = w.drewN q := by
  rcases Nat.eq_zero_or_pos l.length with h0 | h0
  · have hl0 : l = [] := List.eq_nil_of_length_eq_zero h0
    subst hl0
    have hcon := AnyE.slices_ContainsFunc_empty Try.lCF A c (.func (.func 84) #[] #[]) w
    change Calls Try.prog 74 _ _ _ at hcon
    exact hcon.mono fun e w' ⟨he, hw⟩ => ⟨he, 0, hw⟩
  · obtain ⟨b, o, rfl, _, hc⟩ := r.at h0
    have eg : ∀ args w, (callFunc 84 args).run Try.prog w = .ok (.enter 84 args) w := enters_of Try.func84 (by kernel_rfl) rfl
    have hcon := AnyE.slices_ContainsFunc Try.lCF (Value.int .i64) outB 84 #[] eg b o l.length c l w (fun W x _ => edge_closure W x) (Nat.le_refl _) (by omega) (fun j hj => by rw [hc j hj]; simp [nth, hj])
    change Calls Try.prog 74 _ _ _ at hcon
    rw [List.take_length] at hcon
    exact hcon
set_option maxRecDepth 100000 in
set_option maxHeartbeats 1000000 in
theorem edge_any (l : List Int) (A : Option Addr) (c : Nat) (w : World) (B : Nat) (r : Rd w B A l) :
    Calls Try.prog 65 #[.slice A l.length c] w fun e w' => e = .returned (.bool (edgeOk l)) ∧ ∃ q, w' = w.drewN q := by
  by_cases h : l.length ≤ 12
  · have hc := hid (contains_out l A c (by omega) w B r)
    have hd : decide ((l.length : Int) ≤ 12) = true := decide_eq_true (by omega)
    have he : edgeOk l = !l.any outB := by unfold edgeOk; rw [decide_eq_true h, Bool.true_and]
    rw [he]
    generalize l.any outB = p at hc
    clear he r
    go_enter Try.func65, Try.ntmps65
    go_wp2_with (go_at_call 74; refine hc.out.mono ?_; rintro e w' ⟨rfl, q, rfl⟩)
    go_ret
    exact ⟨rfl, _, rfl⟩
  · have hd : decide ((l.length : Int) ≤ 12) = false := decide_eq_false (by omega)
    have he : edgeOk l = false := by unfold edgeOk; rw [decide_eq_false h]; rfl
    rw [he]
    clear he r
    go_enter Try.func65, Try.ntmps65
    go_wp2_with fail
    go_ret
    exact ⟨rfl, 0, rfl⟩
theorem edge_bad {l : List Int} {k : Nat} (hk : k < l.length) (h : outB (nth l k) = true) : edgeOk l = false := by
  unfold edgeOk
  have : l.any outB = true := List.any_eq_true.2 ⟨l[k], List.getElem_mem hk, by simpa [nth, List.getD, hk] using h⟩
  rw [this]
  simp
theorem edge_good {l : List Int} (h : ∀ j, j < l.length → outB (nth l j) = false) : edgeOk l = decide (l.length ≤ 12) := by
  unfold edgeOk
  have : l.any outB = false := by
    rw [List.any_eq_false]
    intro x hx
    obtain ⟨j, hj, rfl⟩ := List.getElem_of_mem hx
    have := h j hj
    rw [nth, List.getD, List.getElem?_eq_getElem hj] at this
    simpa using this
  rw [this]
  simp
def GoodTo (l : List Int) (k : Nat) : Prop := ∀ j, j < l.length → j < k → outB (nth l j) = false
theorem goodTo_s {l : List Int} {k : Nat} (h : GoodTo l k) (h2 : outB (nth l k) = false) : GoodTo l (k + 1) := fun j h3 h4 => by
  by_cases e : j = k
  · rw [e]; exact h2
  · exact h j h3 (by omega)
set_option maxRecDepth 100000 in
set_option maxHeartbeats 1000000 in
theorem profile_any (l : List Int) (A : Option Addr) (c : Nat) (w : World) (B : Nat) (hl : l.length ≤ 9223372036854775807) (r : Rd w B A l) :
    Calls Try.prog 66 #[.slice A l.length c] w fun e w' => e = .returned (.bool (edgeOk l)) ∧ ∃ q, w' = w.drewN q := by
  obtain ⟨n, hn⟩ : ∃ n, n = l.length := ⟨_, rfl⟩
  rw [← hn] at hl ⊢
  have R := hid r; have HN := hid hn
  clear r hn
  go_enter Try.func66, Try.ntmps66
  go_wp2_with fail
  go_loopw [3] (fun i wr => ∃ k : Nat, k ≤ n ∧ i = .int .i64 k ∧ Hid (GoodTo l k) ∧ ∃ q, wr = w.drewN q) (fun i _ => n - (intOf i).toNat)
  case atStart => exact ⟨0, by omega, rfl, (fun j _ h => by omega), 0, rfl⟩
  case round =>
    obtain ⟨k, hk, rfl, hG, q, rfl⟩ := hrel
    by_cases hkn : k < n
    · obtain ⟨b, o, rfl, _, hc⟩ := R.out.at (by rw [← HN.out]; omega)
      have p1 := hc k (by rw [← HN.out]; exact hkn)
      have hb := edge_bad (l := l) (k := k) (by rw [← HN.out]; exact hkn)
      have hg := goodTo_s hG.out
      generalize nth l k = x at p1 hb hg
      clear hc
      by_cases h1 : x < 0
      · have HB := hid (hb (by unfold outB; rw [decide_eq_false (by omega)]; rfl))
        have hd : decide (x < 0) = true := decide_eq_true h1
        clear hb hg
        go_wp2_with fail
        go_ret
        exact ⟨by rw [HB.out]; rfl, q, rfl⟩
      · have hd : decide (x < 0) = false := decide_eq_false h1
        by_cases h2 : 1000 < x
        · have HB := hid (hb (by unfold outB; rw [decide_eq_false (by omega)]; rfl))
          clear hb hg
          go_wp2_with fail
          go_ret
          exact ⟨by rw [HB.out]; rfl, q, rfl⟩
        · have HG := hid (hg (by unfold outB; rw [decide_eq_true (by omega)]; rfl))
          clear hb hg
          go_wp2_with fail
          go_roundw
          case rel => exact ⟨k + 1, by omega, by go_num, HG.out, q, rfl⟩
          case measure => simp [intOf]; omega
    · obtain rfl : n = k := by omega
      have he := edge_good (l := l) fun j hj => hG.out j hj (by rw [HN.out]; exact hj)
      rw [← HN.out] at he
      have HE := hid he
      clear he
      go_wp2_with fail
      go_ret
      exact ⟨by rw [HE.out]; first | rfl | (show Ending.returned (Value.bool _) = _; simp; omega), q, rfl⟩
/-- Whether an edge at the right fits one at the left. -/
def fitB (a b : List Int) : Bool := decide (a.length = b.length) && decide (0 < b.length) && (List.range b.length).all fun i => decide (nth a i + nth b i = nth a 0 + nth b 0)
def FitTo (a b : List Int) (k : Nat) : Prop := ∀ j, j < k → nth a j + nth b j = nth a 0 + nth b 0
theorem fitTo_s {a b : List Int} {k : Nat} (h : FitTo a b k) (h2 : nth a k + nth b k = nth a 0 + nth b 0) : FitTo a b (k + 1) := fun j h3 => by
  by_cases e : j = k
  · rw [e]; exact h2
  · exact h j (by omega)
theorem fit_no1 {a b : List Int} (h : ¬ (a.length = b.length ∧ 0 < b.length)) : fitB a b = false := by
  unfold fitB
  by_cases h1 : a.length = b.length
  · rw [decide_eq_false (p := 0 < b.length) fun h2 => h ⟨h1, h2⟩]; simp
  · rw [decide_eq_false h1]; rfl
theorem fit_no2 {a b : List Int} {k : Nat} (hk : k < b.length) (h : ¬ nth a k + nth b k = nth a 0 + nth b 0) : fitB a b = false := by
  unfold fitB
  have : ((List.range b.length).all fun i => decide (nth a i + nth b i = nth a 0 + nth b 0)) = false := by
    rw [List.all_eq_false]
    exact ⟨k, List.mem_range.2 hk, by simp only [decide_eq_true_eq]; exact h⟩
  rw [this]
  simp
theorem fit_yes {a b : List Int} (h1 : a.length = b.length) (h2 : 0 < b.length) (h : FitTo a b b.length) : fitB a b = true := by
  unfold fitB
  rw [decide_eq_true h1, decide_eq_true h2]
  have : ((List.range b.length).all fun i => decide (nth a i + nth b i = nth a 0 + nth b 0)) = true := by
    rw [List.all_eq_true]
    exact fun i hi => decide_eq_true (h i (List.mem_range.1 hi))
  rw [this]
  rfl
/-- Numbers of edges. -/
def Low (l : List Int) : Prop := ∀ j, j < l.length → 0 ≤ nth l j ∧ nth l j ≤ 1000
theorem low_of {l : List Int} (h : edgeOk l = true) : Low l ∧ l.length ≤ 12 := by
  unfold edgeOk at h
  simp only [Bool.and_eq_true, decide_eq_true_eq, Bool.not_eq_true', List.any_eq_false] at h
  refine ⟨fun j hj => ?_, h.1⟩
  have := h.2 l[j] (List.getElem_mem hj)
  rw [nth, List.getD, List.getElem?_eq_getElem hj]
  simpa [outB] using this
set_option maxRecDepth 100000 in
set_option maxHeartbeats 2000000 in
theorem fits_any (a b : List Int) (Aa Ab : Option Addr) (ca cb : Nat) (ha : Low a) (hb : Low b) (hbl : b.length ≤ 1000000) (w : World) (B : Nat) (ra : Rd w B Aa a) (rb : Rd w B Ab b) :
    Calls Try.prog 67 #[.slice Aa a.length ca, .slice Ab b.length cb] w fun e w' => e = .returned (.bool (fitB a b)) ∧ ∃ q, w' = w.drewN q := by
  obtain ⟨m, hm⟩ : ∃ m, m = a.length := ⟨_, rfl⟩
  obtain ⟨n, hn⟩ : ∃ n, n = b.length := ⟨_, rfl⟩
  have hno1 := fit_no1 (a := a) (b := b)
  rw [← hm, ← hn] at hno1
  rw [← hm, ← hn]
  rw [← hn] at hbl
  have Ra := hid ra; have Rb := hid rb; have HM := hid hm; have HN := hid hn; have HA := hid ha; have HB := hid hb
  clear ra rb hm hn ha hb
  by_cases hmn : m = n
  · subst hmn
    by_cases h0 : m = 0
    · have HF := hid (hno1 (by omega))
      subst h0
      clear hno1
      go_enter Try.func67, Try.ntmps67
      go_wp2_with fail
      go_ret
      exact ⟨by rw [HF.out]; rfl, 0, rfl⟩
    · have h1 : ((m : Int) == 0) = false := by simp; omega
      clear hno1
      obtain ⟨ba, oa, rfl, _, hca⟩ := Ra.out.at (by rw [← HM.out]; omega)
      obtain ⟨bb, ob, rfl, _, hcb⟩ := Rb.out.at (by rw [← HN.out]; omega)
      have p1 := hca 0 (by rw [← HM.out]; omega)
      have p2 := hcb 0 (by rw [← HN.out]; omega)
      have l1 := HA.out 0 (by rw [← HM.out]; omega)
      have l2 := HB.out 0 (by rw [← HN.out]; omega)
      rw [Nat.add_zero] at p1 p2
      have HCA := hid hca; have HCB := hid hcb
      obtain ⟨x0, hx0⟩ : ∃ x0, x0 = nth a 0 := ⟨_, rfl⟩
      obtain ⟨y0, hy0⟩ : ∃ y0, y0 = nth b 0 := ⟨_, rfl⟩
      rw [← hx0] at p1 l1
      rw [← hy0] at p2 l2
      have HX0 := hid hx0; have HY0 := hid hy0
      clear hca hcb hx0 hy0
      obtain ⟨l1a, l1b⟩ := l1
      obtain ⟨l2a, l2b⟩ := l2
      go_enter Try.func67, Try.ntmps67
      go_wp2_with fail
      go_loopw [18] (fun i wr => ∃ k : Nat, k ≤ m ∧ i = .int .i64 k ∧ Hid (FitTo a b k) ∧ ∃ q, wr = w.drewN q) (fun i _ => m - (intOf i).toNat)
      case atStart => exact ⟨0, by omega, rfl, (fun j h => by omega), 0, rfl⟩
      case round =>
        obtain ⟨k, hk, rfl, hG, q, rfl⟩ := hrel
        by_cases hkn : k < m
        · have p3 := HCA.out k (by rw [← HM.out]; exact hkn)
          have p4 := HCB.out k (by rw [← HN.out]; exact hkn)
          have l3 := HA.out k (by rw [← HM.out]; exact hkn)
          have l4 := HB.out k (by rw [← HN.out]; exact hkn)
          have hno := fit_no2 (a := a) (b := b) (k := k) (by rw [← HN.out]; exact hkn)
          have hye := fitTo_s hG.out
          rw [← HX0.out, ← HY0.out] at hno hye
          generalize nth a k = x at p3 l3 hno hye
          generalize nth b k = y at p4 l4 hno hye
          obtain ⟨l3a, l3b⟩ := l3
          obtain ⟨l4a, l4b⟩ := l4
          have HNO := hid hno; have HYE := hid hye
          clear hno hye
          by_cases hs : x + y = x0 + y0
          · have hs2 : ((x + y : Int) == x0 + y0) = true := by simp; omega
            go_wp2_with fail
            go_quiet (fail)
            go_wp2_with fail
            go_roundw
            case rel => exact ⟨k + 1, by omega, by go_num, HYE.out hs, q + nq, rfl⟩
            case measure => simp [intOf]; omega
          · have hs2 : ((x + y : Int) == x0 + y0) = false := by simp; omega
            go_wp2_with fail
            go_quiet (fail)
            go_wp2_with fail
            go_ret
            exact ⟨by rw [HNO.out hs]; rfl, q + nq, by simp⟩
        · obtain rfl : m = k := by omega
          have HY := hid (fit_yes (a := a) (b := b) (by rw [← HM.out, ← HN.out]) (by rw [← HN.out]; omega) (by rw [← HN.out]; exact hG.out))
          go_wp2_with fail
          go_ret
          exact ⟨by rw [HY.out]; rfl, _, rfl⟩
  · have HF := hid (hno1 (by omega))
    have h1 : ((m : Int) == n) = false := by simp; omega
    clear hno1
    go_enter Try.func67, Try.ntmps67
    go_wp2_with fail
    go_ret
    exact ⟨by rw [HF.out]; rfl, 0, rfl⟩
end Go.Proofs.Ytoljnbbhoeloeaa

/- BLOCKS: in the memory, and what their test answers. -/
namespace Go.Proofs.Ytoljnbbhoeloeaa
open Go.RowKit
/-- A block: its edges, and its rows. -/
structure Bk where
  l : Ln
  r : Ln
  ra : Option Addr
  rc : Nat
  rows : List Ln
def Bk.cells (b : Bk) : List Value := [b.l.val, b.r.val, .slice b.ra b.rows.length b.rc]
def flatB (bs : List Bk) : List Value := bs.flatMap Bk.cells
theorem flatB_len (bs : List Bk) : (flatB bs).length = bs.length * 3 := by
  induction bs with
  | nil => rfl
  | cons b bs ih => simp [flatB, Bk.cells] at *; omega
theorem flatB_get : ∀ (bs : List Bk) (k j : Nat) (hk : k < bs.length), j < 3 → (flatB bs)[k * 3 + j]? = (bs[k].cells)[j]?
  | b :: bs, 0, j, _, hj => by
    simp only [flatB, List.flatMap_cons, Nat.zero_mul, Nat.zero_add]
    rw [List.getElem?_append_left (by simp [Bk.cells]; omega)]
    rfl
  | b :: bs, k + 1, j, hk, hj => by
    have ih := flatB_get bs k j (by simpa using hk) hj
    simp only [flatB, List.flatMap_cons]
    rw [List.getElem?_append_right (by simp [Bk.cells]; omega)]
    have e : (k + 1) * 3 + j - b.cells.length = k * 3 + j := by simp [Bk.cells]; omega
    rw [e]
    simpa [flatB] using ih
/-- Blocks that are only read. -/
structure Bks (w : World) (B : Nat) (A : Option Addr) (bs : List Bk) : Prop where
  row : Reads w B 3 A bs.length (flatB bs)
  el : ∀ b ∈ bs, Rd w B b.l.1 b.l.2.2 ∧ Rd w B b.r.1 b.r.2.2 ∧ Lns w B b.ra b.rows ∧ b.l.2.2.length ≤ 9223372036854775807 ∧ b.r.2.2.length ≤ 9223372036854775807
theorem Lns.more {w : World} {B B' : Nat} {A : Option Addr} {ls : List Ln} (h : Lns w B A ls) (hb : B ≤ B') : Lns w B' A ls := ⟨Reads.more h.row hb, fun t ht => (h.ln t ht).more hb⟩
theorem Bks.below {w w' : World} {B : Nat} {A : Option Addr} {bs : List Bk} (h : Bks w B A bs) (hb : Below B w w') : Bks w' B A bs :=
  ⟨Reads.below h.row hb, fun b hbs => by obtain ⟨h1, h2, h3, h4⟩ := h.el b hbs; exact ⟨h1.below hb, h2.below hb, h3.below hb, h4⟩⟩
theorem Bks.more {w : World} {B B' : Nat} {A : Option Addr} {bs : List Bk} (h : Bks w B A bs) (hb : B ≤ B') : Bks w B' A bs :=
  ⟨Reads.more h.row hb, fun b hbs => by obtain ⟨h1, h2, h3, h4⟩ := h.el b hbs; exact ⟨h1.more hb, h2.more hb, h3.more hb, h4⟩⟩
theorem Bks.at {w : World} {B : Nat} {A : Option Addr} {bs : List Bk} (h : Bks w B A bs) (hl : 0 < bs.length) :
    ∃ b o, A = some ⟨b, o, none⟩ ∧ b < B ∧ ∀ k (hk : k < bs.length), w.cell? ⟨b, o + k * 3, none⟩ = some (.slice bs[k].l.1 bs[k].l.2.2.length bs[k].l.2.1) ∧ w.cell? ⟨b, o + (k * 3 + 1), none⟩ = some (.slice bs[k].r.1 bs[k].r.2.2.length bs[k].r.2.1) ∧ w.cell? ⟨b, o + (k * 3 + 2), none⟩ = some (.slice bs[k].ra bs[k].rows.length bs[k].rc) := by
  obtain ⟨b, o, rfl, hb, hc⟩ := Reads.at0 h.row hl (by rw [flatB_len]; omega)
  exact ⟨b, o, rfl, hb, fun k hk => ⟨hc _ _ (flatB_get bs k 0 hk (by omega)), hc _ _ (flatB_get bs k 1 hk (by omega)), hc _ _ (flatB_get bs k 2 hk (by omega))⟩⟩
/-- Whether a block is valid, m being the number of rows of the first one. -/
def blkOk (m : Nat) (b : Bk) : Bool := decide (b.rows.length = m) && decide (b.rows.length ≤ 12) && edgeOk b.l.2.2 && edgeOk b.r.2.2 && decide (linesErr (sig b.rows) = 0)
def rows0 (bs : List Bk) : Nat := match bs with
  | [] => 0
  | b :: _ => b.rows.length
def blksErr (bs : List Bk) : Int := if 8 < bs.length then 2 else if bs.all (blkOk (rows0 bs)) then 0 else 81
theorem rows0_eq {bs : List Bk} (h : 0 < bs.length) : rows0 bs = bs[0].rows.length := by
  cases bs with
  | nil => simp at h
  | cons b bs => rfl
def OkTo (bs : List Bk) (k : Nat) : Prop := ∀ j (hj : j < bs.length), j < k → blkOk (rows0 bs) bs[j] = true
theorem okTo_s {bs : List Bk} {k : Nat} (hk : k < bs.length) (h : OkTo bs k) (h2 : blkOk (rows0 bs) bs[k] = true) : OkTo bs (k + 1) := fun j hj h3 => by
  by_cases e : j = k
  · subst e; exact h2
  · exact h j hj (by omega)
theorem blks_bad {bs : List Bk} {k : Nat} (h8 : bs.length ≤ 8) (hk : k < bs.length) (h : blkOk (rows0 bs) bs[k] = false) : blksErr bs = 81 := by
  unfold blksErr
  rw [if_neg (by omega), if_neg]
  rw [List.all_eq_true]
  intro hx
  rw [hx _ (List.getElem_mem hk)] at h
  cases h
theorem blks_good {bs : List Bk} (h8 : bs.length ≤ 8) (h : OkTo bs bs.length) : blksErr bs = 0 := by
  unfold blksErr
  rw [if_neg (by omega), if_pos]
  rw [List.all_eq_true]
  intro b hb
  obtain ⟨j, hj, rfl⟩ := List.getElem_of_mem hb
  exact h j hj hj
theorem blks_many {bs : List Bk} (h8 : 8 < bs.length) : blksErr bs = 2 := if_pos h8
theorem blks_ok {bs : List Bk} (h : blksErr bs = 0) : bs.length ≤ 8 ∧ OkTo bs bs.length := by
  unfold blksErr at h
  split at h
  · cases h
  · rename_i h8
    split at h
    · rename_i h1
      rw [List.all_eq_true] at h1
      exact ⟨by omega, fun j hj _ => h1 _ (List.getElem_mem hj)⟩
    · cases h
end Go.Proofs.Ytoljnbbhoeloeaa

/- WALK: CheckBlocks. -/
namespace Go.Proofs.Ytoljnbbhoeloeaa
open Go.RowKit
set_option maxRecDepth 100000 in
set_option maxHeartbeats 4000000 in
theorem checkBlocks_any (bs : List Bk) (A : Option Addr) (c : Nat) (w : World) (r : Bks w w.heap.size A bs) :
    Calls Try.prog 32 #[.slice A bs.length c] w fun e w' => e = .returned (.int .i64 (blksErr bs)) ∧ Below w.heap.size w w' := by
  obtain ⟨n, hn⟩ : ∃ n, n = bs.length := ⟨_, rfl⟩
  rw [← hn]
  have R := hid r; have HN := hid hn
  clear r hn
  by_cases h8 : 8 < n
  · have HM := hid (blks_many (bs := bs) (by rw [← HN.out]; exact h8))
    have hd : decide ((8 : Int) < n) = true := decide_eq_true (by omega)
    go_enter Try.func32, Try.ntmps32
    go_wp2_with fail
    go_ret
    exact ⟨by rw [HM.out]; rfl, Below.refl _ _⟩
  · have hd : decide ((8 : Int) < n) = false := decide_eq_false (by omega)
    go_enter Try.func32, Try.ntmps32
    go_wp2_with fail
    go_loopw [10] (fun i wr => ∃ k : Nat, k ≤ n ∧ i = .int .i64 k ∧ Hid (OkTo bs k) ∧ Hid (Below w.heap.size w wr)) (fun i _ => n - (intOf i).toNat)
    case atStart => exact ⟨0, by omega, rfl, (fun j _ h => by omega), Below.refl _ _⟩
    case round =>
      obtain ⟨k, hk, rfl, hO, hB⟩ := hrel
      by_cases hkn : k < n
      · have hk' : k < bs.length := by rw [← HN.out]; exact hkn
        obtain ⟨b, o, rfl, hbB, hc⟩ := R.out.at (by omega)
        obtain ⟨a0, a1, a2⟩ := hc k hk'
        obtain ⟨_, _, a3⟩ := hc 0 (by omega)
        have hm0 := rows0_eq (bs := bs) (by omega)
        have hbad := blks_bad (bs := bs) (k := k) (by rw [← HN.out]; omega) hk'
        have hnext := okTo_s hk' hO.out
        have d0 := (hB.out.cell (p := ⟨b, o + k * 3, none⟩) hbB).trans a0
        have d1 := (hB.out.cell (p := ⟨b, o + (k * 3 + 1), none⟩) hbB).trans a1
        have d2 := (hB.out.cell (p := ⟨b, o + (k * 3 + 2), none⟩) hbB).trans a2
        have d3 := (hB.out.cell (p := ⟨b, o + (0 * 3 + 2), none⟩) hbB).trans a3
        rw [Nat.zero_mul, Nat.zero_add, ← hm0] at d3
        rw [← Nat.add_assoc] at d1 d2
        have hel := R.out.el _ (List.getElem_mem hk')
        generalize bs[k] = bk at d0 d1 d2 hbad hnext hel
        generalize rows0 bs = m at d3 hbad hnext
        generalize bs[0].ra = ra0 at d3
        generalize bs[0].rc = rc0 at d3
        obtain ⟨⟨Al, cl, ll⟩, ⟨Ar, cr, lr⟩, ra, rc, rows⟩ := bk
        simp only [] at d0 d1 d2 hel
        obtain ⟨r1, r2, r3, _, _⟩ := hel
        unfold blkOk at hbad hnext
        simp only [] at hbad hnext
        obtain ⟨z, hz⟩ : ∃ z, z = linesErr (sig rows) := ⟨_, rfl⟩
        obtain ⟨L, hL⟩ : ∃ L, L = rows.length := ⟨_, rfl⟩
        rw [← hz, ← hL] at hbad hnext
        rw [← hL] at d2
        have HBAD := hid hbad; have HNEXT := hid hnext
        have hbw : b < wr.heap.size := by have := hB.out.size; omega
        have hsz := hB.out.size
        have hn0 : 0 < n := by omega
        obtain ⟨w2, hw2⟩ : ∃ w2, w2 = wr.alloc (.cells #[.slice Al ll.length cl, .slice Ar lr.length cr, .slice ra L rc] 85) := ⟨_, rfl⟩
        have HB2 : Hid (Below w.heap.size w w2) := by rw [hw2]; exact hB.out.alloc hsz _
        have f0 : w2.cell? ⟨wr.heap.size, 0, none⟩ = some (.slice Al ll.length cl) := by rw [hw2]; simp [go_sem]
        have f1 : w2.cell? ⟨wr.heap.size, 1, none⟩ = some (.slice Ar lr.length cr) := by rw [hw2]; simp [go_sem]
        have f2 : w2.cell? ⟨wr.heap.size, 2, none⟩ = some (.slice ra L rc) := by rw [hw2]; simp [go_sem]
        have f3 : w2.cell? ⟨b, o + 2, none⟩ = some (.slice ra0 m rc0) := by rw [hw2]; exact (World.cell?_alloc_lt _ _ _ (by simp; omega)).trans d3
        have HR1 := hid (fun q => (r1.below HB2.out).below (below_drewN (Below.refl w.heap.size w2) q))
        have HR2 := hid (fun q => (r2.below HB2.out).below (below_drewN (Below.refl w.heap.size w2) q))
        have HE3 : Hid (L ≤ 12 → ∀ q, Calls Try.prog 47 #[.slice ra L rc] (w2.drewN q) fun e w' => e = .returned (.int .i64 z) ∧ ∃ q', w' = (w2.drewN q).drewN q') := fun h q => by
          rw [hz, hL]; exact check_any rows ra rc (by omega) _ w.heap.size ((r3.below HB2.out).below (below_drewN (Below.refl _ _) _))
        clear hbad hnext hc a0 a1 a2 a3 hm0 hL hz r1 r2 r3
        by_cases hLm : L = m
        · subst hLm
          by_cases h12 : L ≤ 12
          · have hd12 : decide ((12 : Int) < L) = false := decide_eq_false (by omega)
            have HE3' := hid (HE3.out h12)
            clear HE3
            have HE3 := hid HE3'.out
            clear HE3'
            cases hp1 : edgeOk ll with
            | true =>
              cases hp2 : edgeOk lr with
              | true =>
                rw [hp1, hp2] at HBAD HNEXT
                by_cases hz0 : z = 0
                · subst hz0
                  have HX := hid (HNEXT.out (by simp; omega))
                  go_wp2_with fail
                  rw [← hw2]
                  clear hw2
                  go_quiet (first | (go_at_call 65; go_must (exact (edge_any _ _ _ _ w.heap.size (by first | exact HR1.out _ | exact HR2.out _)).mono fun e w' h => ⟨h.1, by obtain ⟨_, n5, hw⟩ := h; exact ⟨_, by rw [hw, World.drewN_drewN]⟩⟩)) | (go_at_call 47; go_must (exact (HE3.out _).mono fun e w' h => ⟨h.1, by obtain ⟨_, n5, hw⟩ := h; exact ⟨_, by rw [hw, World.drewN_drewN]⟩⟩)))
                  go_wp2_with fail
                  go_roundw
                  case rel => exact ⟨k + 1, by omega, by go_num, HX.out, below_drewN HB2.out _⟩
                  case measure => simp [intOf]; omega
                · have hz1 : (z == 0) = false := by simp; omega
                  have HX := hid (HBAD.out (by simp; omega))
                  go_wp2_with fail
                  rw [← hw2]
                  clear hw2
                  go_quiet (first | (go_at_call 65; go_must (exact (edge_any _ _ _ _ w.heap.size (by first | exact HR1.out _ | exact HR2.out _)).mono fun e w' h => ⟨h.1, by obtain ⟨_, n5, hw⟩ := h; exact ⟨_, by rw [hw, World.drewN_drewN]⟩⟩)) | (go_at_call 47; go_must (exact (HE3.out _).mono fun e w' h => ⟨h.1, by obtain ⟨_, n5, hw⟩ := h; exact ⟨_, by rw [hw, World.drewN_drewN]⟩⟩)))
                  go_wp2_with fail
                  go_ret
                  exact ⟨by rw [HX.out]; rfl, below_drewN HB2.out _⟩
              | false =>
                rw [hp1, hp2] at HBAD HNEXT
                have HX := hid (HBAD.out (by simp))
                go_wp2_with fail
                rw [← hw2]
                clear hw2
                go_quiet (first | (go_at_call 65; go_must (exact (edge_any _ _ _ _ w.heap.size (by first | exact HR1.out _ | exact HR2.out _)).mono fun e w' h => ⟨h.1, by obtain ⟨_, n5, hw⟩ := h; exact ⟨_, by rw [hw, World.drewN_drewN]⟩⟩)) | (go_at_call 47; go_must (exact (HE3.out _).mono fun e w' h => ⟨h.1, by obtain ⟨_, n5, hw⟩ := h; exact ⟨_, by rw [hw, World.drewN_drewN]⟩⟩)))
                go_wp2_with fail
                go_ret
                exact ⟨by rw [HX.out]; rfl, below_drewN HB2.out _⟩
            | false =>
              rw [hp1] at HBAD HNEXT
              have HX := hid (HBAD.out (by simp))
              go_wp2_with fail
              rw [← hw2]
              clear hw2
              go_quiet (first | (go_at_call 65; go_must (exact (edge_any _ _ _ _ w.heap.size (by first | exact HR1.out _ | exact HR2.out _)).mono fun e w' h => ⟨h.1, by obtain ⟨_, n5, hw⟩ := h; exact ⟨_, by rw [hw, World.drewN_drewN]⟩⟩)) | (go_at_call 47; go_must (exact (HE3.out _).mono fun e w' h => ⟨h.1, by obtain ⟨_, n5, hw⟩ := h; exact ⟨_, by rw [hw, World.drewN_drewN]⟩⟩)))
              go_wp2_with fail
              go_ret
              exact ⟨by rw [HX.out]; rfl, below_drewN HB2.out _⟩
          · have hd12 : decide ((12 : Int) < L) = true := decide_eq_true (by omega)
            have HX := hid (HBAD.out (by rw [decide_eq_false h12]; simp))
            go_wp2_with fail
            rw [← hw2]
            clear hw2
            go_quiet (first | (go_at_call 65; go_must (exact (edge_any _ _ _ _ w.heap.size (by first | exact HR1.out _ | exact HR2.out _)).mono fun e w' h => ⟨h.1, by obtain ⟨_, n5, hw⟩ := h; exact ⟨_, by rw [hw, World.drewN_drewN]⟩⟩)) | (go_at_call 47; go_must (exact (HE3.out _).mono fun e w' h => ⟨h.1, by obtain ⟨_, n5, hw⟩ := h; exact ⟨_, by rw [hw, World.drewN_drewN]⟩⟩)))
            go_wp2_with fail
            go_ret
            exact ⟨by rw [HX.out]; rfl, below_drewN HB2.out _⟩
        · have hne : ((L : Int) != m) = true := by simp; omega
          have HX := hid (HBAD.out (by rw [decide_eq_false hLm]; simp))
          go_wp2_with fail
          rw [← hw2]
          clear hw2
          go_quiet (first | (go_at_call 65; go_must (exact (edge_any _ _ _ _ w.heap.size (by first | exact HR1.out _ | exact HR2.out _)).mono fun e w' h => ⟨h.1, by obtain ⟨_, n5, hw⟩ := h; exact ⟨_, by rw [hw, World.drewN_drewN]⟩⟩)) | (go_at_call 47; go_must (exact (HE3.out _).mono fun e w' h => ⟨h.1, by obtain ⟨_, n5, hw⟩ := h; exact ⟨_, by rw [hw, World.drewN_drewN]⟩⟩)))
          go_wp2_with fail
          go_ret
          exact ⟨by rw [HX.out]; rfl, below_drewN HB2.out _⟩
      · obtain rfl : n = k := by omega
        have HG := hid (blks_good (bs := bs) (by rw [← HN.out]; omega) (by rw [← HN.out]; exact hO.out))
        go_wp2_with fail
        go_ret
        exact ⟨by rw [HG.out]; rfl, hB.out⟩
end Go.Proofs.Ytoljnbbhoeloeaa

/- WALK: the reference's CheckBlocks. -/
namespace Go.Proofs.Ytoljnbbhoeloeaa
open Go.RowKit
theorem lines_bad {ls : List (List Int)} {k : Nat} (hk : k < ls.length) (h : ∀ j (hj : j < ls.length), j < k → lineErr ls[j] = 0) (hb : lineErr ls[k] ≠ 0) : linesErr ls ≠ 0 := by
  rw [linesErr_bad hk (fun l hl => by
    obtain ⟨j, hj, rfl⟩ := List.getElem_of_mem hl
    rw [List.getElem_take]
    simp at hj
    exact h j (by omega) (by omega)) hb]
  exact hb
theorem sig_len (ls : List Ln) : (sig ls).length = ls.length := by simp [sig]
def LnTo (rows : List Ln) (j : Nat) : Prop := ∀ i (hi : i < rows.length), i < j → lineErr rows[i].2.2 = 0
theorem lnTo_s {rows : List Ln} {j : Nat} (hj : j < rows.length) (h : LnTo rows j) (h2 : lineErr rows[j].2.2 = 0) : LnTo rows (j + 1) := fun i hi h3 => by
  by_cases e : i = j
  · subst e; exact h2
  · exact h i hi (by omega)
theorem lnTo_all {rows : List Ln} (h : LnTo rows rows.length) : linesErr (sig rows) = 0 := linesErr_ok fun l hl => by
  obtain ⟨t, ht, rfl⟩ := List.mem_map.1 hl
  obtain ⟨i, hi, rfl⟩ := List.getElem_of_mem ht
  exact h i hi hi
theorem lnTo_bad {rows : List Ln} {j : Nat} (hj : j < rows.length) (h : LnTo rows j) (h2 : lineErr rows[j].2.2 ≠ 0) : linesErr (sig rows) ≠ 0 :=
  lines_bad (k := j) (by rw [sig_len]; exact hj) (fun i hi h3 => by simp only [sig, List.getElem_map]; exact h i (by rw [sig_len] at hi; exact hi) h3) (by simp only [sig, List.getElem_map]; exact h2)
set_option maxRecDepth 100000 in
set_option maxHeartbeats 4000000 in
theorem ref_checkBlocks_any (bs : List Bk) (A : Option Addr) (c : Nat) (w : World) (r : Bks w w.heap.size A bs) :
    Calls Try.prog 33 #[.slice A bs.length c] w fun e w' => e = .returned (.int .i64 (blksErr bs)) ∧ Below w.heap.size w w' := by
  obtain ⟨n, hn⟩ : ∃ n, n = bs.length := ⟨_, rfl⟩
  rw [← hn]
  have R := hid r; have HN := hid hn
  clear r hn
  by_cases h8 : 8 < n
  · have HM := hid (blks_many (bs := bs) (by rw [← HN.out]; exact h8))
    have hd : decide ((8 : Int) < n) = true := decide_eq_true (by omega)
    go_enter Try.func33, Try.ntmps33
    go_wp2_with fail
    go_ret
    exact ⟨by rw [HM.out]; rfl, Below.refl _ _⟩
  · have hd : decide ((8 : Int) < n) = false := decide_eq_false (by omega)
    go_enter Try.func33, Try.ntmps33
    go_wp2_with fail
    go_loopw [3] (fun i wr => ∃ k : Nat, k ≤ n ∧ i = .int .i64 k ∧ Hid (OkTo bs k) ∧ Hid (Below w.heap.size w wr)) (fun i _ => n - (intOf i).toNat)
    case atStart => exact ⟨0, by omega, rfl, (fun j _ h => by omega), Below.refl _ _⟩
    case round =>
      obtain ⟨k, hk, rfl, hO, hB⟩ := hrel
      by_cases hkn : k < n
      · have hk' : k < bs.length := by rw [← HN.out]; exact hkn
        obtain ⟨b, o, rfl, hbB, hc⟩ := R.out.at (by omega)
        obtain ⟨a0, a1, a2⟩ := hc k hk'
        obtain ⟨_, _, a3⟩ := hc 0 (by omega)
        have hm0 := rows0_eq (bs := bs) (by omega)
        have hbad := blks_bad (bs := bs) (k := k) (by rw [← HN.out]; omega) hk'
        have hnext := okTo_s hk' hO.out
        have d0 := (hB.out.cell (p := ⟨b, o + k * 3, none⟩) hbB).trans a0
        have d1 := (hB.out.cell (p := ⟨b, o + (k * 3 + 1), none⟩) hbB).trans a1
        have d2 := (hB.out.cell (p := ⟨b, o + (k * 3 + 2), none⟩) hbB).trans a2
        have d3 := (hB.out.cell (p := ⟨b, o + (0 * 3 + 2), none⟩) hbB).trans a3
        rw [Nat.zero_mul, Nat.zero_add, ← hm0] at d3
        rw [← Nat.add_assoc] at d1 d2
        have hel := R.out.el _ (List.getElem_mem hk')
        generalize bs[k] = bk at d0 d1 d2 hbad hnext hel
        generalize rows0 bs = m at d3 hbad hnext
        generalize bs[0].ra = ra0 at d3
        generalize bs[0].rc = rc0 at d3
        obtain ⟨⟨Al, cl, ll⟩, ⟨Ar, cr, lr⟩, ra, rc, rows⟩ := bk
        simp only [] at d0 d1 d2 hel
        obtain ⟨r1, r2, r3, n1, n2⟩ := hel
        unfold blkOk at hbad hnext
        simp only [] at hbad hnext
        obtain ⟨z, hz⟩ : ∃ z, z = linesErr (sig rows) := ⟨_, rfl⟩
        obtain ⟨L, hL⟩ : ∃ L, L = rows.length := ⟨_, rfl⟩
        rw [← hz, ← hL] at hbad hnext
        rw [← hL] at d2
        have HBAD := hid hbad; have HNEXT := hid hnext
        have hbw : b < wr.heap.size := by have := hB.out.size; omega
        have hsz := hB.out.size
        have hn0 : 0 < n := by omega
        obtain ⟨w2, hw2⟩ : ∃ w2, w2 = wr.alloc (.cells #[.slice Al ll.length cl, .slice Ar lr.length cr, .slice ra L rc] 85) := ⟨_, rfl⟩
        have HB2 : Hid (Below w.heap.size w w2) := by rw [hw2]; exact hB.out.alloc hsz _
        have f0 : w2.cell? ⟨wr.heap.size, 0, none⟩ = some (.slice Al ll.length cl) := by rw [hw2]; simp [go_sem]
        have f1 : w2.cell? ⟨wr.heap.size, 1, none⟩ = some (.slice Ar lr.length cr) := by rw [hw2]; simp [go_sem]
        have f2 : w2.cell? ⟨wr.heap.size, 2, none⟩ = some (.slice ra L rc) := by rw [hw2]; simp [go_sem]
        have f3 : w2.cell? ⟨b, o + 2, none⟩ = some (.slice ra0 m rc0) := by rw [hw2]; exact (World.cell?_alloc_lt _ _ _ (by simp; omega)).trans d3
        have HR1 := hid (fun q => (r1.below HB2.out).below (below_drewN (Below.refl w.heap.size w2) q))
        have HR2 := hid (fun q => (r2.below HB2.out).below (below_drewN (Below.refl w.heap.size w2) q))
        have HR3 := hid (fun w' (h : Below w2.heap.size w2 w') => (r3.below HB2.out).below (h.mono HB2.out.size))
        have HL := hid hL; have HZ := hid hz
        clear hbad hnext hc a0 a1 a2 a3 hm0 hL hz r1 r2 r3
        by_cases hLm : L = m
        · subst hLm
          by_cases h12 : L ≤ 12
          · have hd12 : decide ((12 : Int) < L) = false := decide_eq_false (by omega)
            cases hp1 : edgeOk ll with
            | true =>
              cases hp2 : edgeOk lr with
              | true =>
                rw [hp1, hp2] at HBAD HNEXT
                have HY := hid (fun hz0 : z = 0 => HNEXT.out (by simp; omega))
                have HX := hid (fun hz0 : z ≠ 0 => HBAD.out (by simp; omega))
                go_wp2_with fail
                rw [← hw2]
                clear hw2 HBAD HNEXT
                go_quiet (first | (go_at_call 66; go_must (exact (profile_any _ _ _ _ w.heap.size (by first | exact n1 | exact n2) (by first | exact HR1.out _ | exact HR2.out _)).mono fun e w' h => ⟨h.1, by obtain ⟨_, n5, hw⟩ := h; exact ⟨_, by rw [hw, World.drewN_drewN]⟩⟩)))
                go_wp2_with fail
                rw [hp1, hp2]
                go_loopw [5] (fun jv wi => ∃ j : Nat, j ≤ L ∧ jv = .int .i64 j ∧ Hid (LnTo rows j) ∧ ∃ q, wi = w2.drewN q) (fun i _ => L - (intOf i).toNat)
                case atStart => exact ⟨0, by omega, rfl, (fun i _ h => by omega), _, rfl⟩
                case round =>
                  obtain ⟨j, hj, rfl, hLn, q2, rfl⟩ := hrel
                  by_cases hjL : j < L
                  · have hj' : j < rows.length := by rw [← HL.out]; exact hjL
                    have hr3 := HR3.out _ (Below.refl _ _)
                    obtain ⟨bl, ol, rfl, hbl, hcl⟩ := hr3.at (by omega)
                    have g0 := hcl j hj'
                    have hrd := fun q => (hr3.ln _ (List.getElem_mem hj')).below (below_drewN (Below.refl w.heap.size w2) q)
                    have hnx := lnTo_s hj' hLn.out
                    have hbd := lnTo_bad hj' hLn.out
                    rw [← HZ.out] at hbd
                    generalize rows[j] = t at g0 hrd hnx hbd
                    obtain ⟨At, ct, lt⟩ := t
                    simp only [] at g0 hrd hnx hbd
                    have HCL := hid (fun q => checkLine_any lt At ct (w2.drewN q) w.heap.size (hrd q))
                    generalize lineErr lt = y at HCL hnx hbd
                    have HNX := hid hnx; have HBD := hid hbd
                    clear hcl hrd hnx hbd hr3
                    by_cases hy : y = 0
                    · have HNX0 := hid (HNX.out hy)
                      clear HNX HBD
                      subst hy
                      go_wp2_with (first | (go_at_call 51; refine (HCL.out _).mono ?_; rintro e w' ⟨rfl, q3, rfl⟩))
                      go_roundw
                      case rel => exact ⟨j + 1, by omega, by go_num, HNX0.out, _, by first | rfl | exact World.drewN_drewN _ _ _⟩
                      case measure => simp [intOf]; omega
                    · have HX2 := hid (HX.out (HBD.out hy))
                      go_wp2_with (first | (go_at_call 51; refine (HCL.out _).mono ?_; rintro e w' ⟨rfl, q3, rfl⟩))
                      go_ret
                      exact ⟨by rw [HX2.out]; rfl, below_drewN HB2.out _⟩
                  · obtain rfl : L = j := by omega
                    have hz0 := lnTo_all (rows := rows) (by rw [← HL.out]; exact hLn.out)
                    rw [← HZ.out] at hz0
                    have HX3 := hid (HY.out hz0)
                    clear hz0
                    go_wp2_with fail
                    go_roundw
                    case rel => exact ⟨k + 1, by omega, by go_num, HX3.out, below_drewN HB2.out _⟩
                    case measure => simp [intOf]; omega
              | false =>
                rw [hp1, hp2] at HBAD HNEXT
                have HX := hid (HBAD.out (by simp))
                go_wp2_with fail
                rw [← hw2]
                clear hw2
                go_quiet (first | (go_at_call 66; go_must (exact (profile_any _ _ _ _ w.heap.size (by first | exact n1 | exact n2) (by first | exact HR1.out _ | exact HR2.out _)).mono fun e w' h => ⟨h.1, by obtain ⟨_, n5, hw⟩ := h; exact ⟨_, by rw [hw, World.drewN_drewN]⟩⟩)))
                go_wp2_with fail
                go_ret
                exact ⟨by rw [HX.out]; rfl, below_drewN HB2.out _⟩
            | false =>
              rw [hp1] at HBAD HNEXT
              have HX := hid (HBAD.out (by simp))
              go_wp2_with fail
              rw [← hw2]
              clear hw2
              go_quiet (first | (go_at_call 66; go_must (exact (profile_any _ _ _ _ w.heap.size (by first | exact n1 | exact n2) (by first | exact HR1.out _ | exact HR2.out _)).mono fun e w' h => ⟨h.1, by obtain ⟨_, n5, hw⟩ := h; exact ⟨_, by rw [hw, World.drewN_drewN]⟩⟩)))
              go_wp2_with fail
              go_ret
              exact ⟨by rw [HX.out]; rfl, below_drewN HB2.out _⟩
          · have hd12 : decide ((12 : Int) < L) = true := decide_eq_true (by omega)
            have HX := hid (HBAD.out (by rw [decide_eq_false h12]; simp))
            go_wp2_with fail
            rw [← hw2]
            clear hw2
            go_quiet (first | (go_at_call 66; go_must (exact (profile_any _ _ _ _ w.heap.size (by first | exact n1 | exact n2) (by first | exact HR1.out _ | exact HR2.out _)).mono fun e w' h => ⟨h.1, by obtain ⟨_, n5, hw⟩ := h; exact ⟨_, by rw [hw, World.drewN_drewN]⟩⟩)))
            go_wp2_with fail
            go_ret
            exact ⟨by rw [HX.out]; rfl, below_drewN HB2.out _⟩
        · have hne : ((L : Int) != m) = true := by simp; omega
          have HX := hid (HBAD.out (by rw [decide_eq_false hLm]; simp))
          go_wp2_with fail
          rw [← hw2]
          clear hw2
          go_quiet (first | (go_at_call 66; go_must (exact (profile_any _ _ _ _ w.heap.size (by first | exact n1 | exact n2) (by first | exact HR1.out _ | exact HR2.out _)).mono fun e w' h => ⟨h.1, by obtain ⟨_, n5, hw⟩ := h; exact ⟨_, by rw [hw, World.drewN_drewN]⟩⟩)))
          go_wp2_with fail
          go_ret
          exact ⟨by rw [HX.out]; rfl, below_drewN HB2.out _⟩
      · obtain rfl : n = k := by omega
        have HG := hid (blks_good (bs := bs) (by rw [← HN.out]; omega) (by rw [← HN.out]; exact hO.out))
        go_wp2_with fail
        go_ret
        exact ⟨by rw [HG.out]; rfl, hB.out⟩
end Go.Proofs.Ytoljnbbhoeloeaa

/- WALK: Fit, and whether two blocks fit in the reference. -/
namespace Go.Proofs.Ytoljnbbhoeloeaa
open Go.RowKit
set_option maxRecDepth 100000 in
set_option maxHeartbeats 4000000 in
theorem ref_fit_any (a b : List Int) (Aa Ab Al Br Ar Bq : Option Addr) (ca cb n1 c1 n2 c2 n3 c3 n4 c4 : Nat) (ha : Low a) (hb : Low b) (hbl : b.length ≤ 1000000) (w : World) (ra : Rd w w.heap.size Aa a) (rb : Rd w w.heap.size Ab b) :
    Calls Try.prog 68 #[.agg #[.slice Al n1 c1, .slice Aa a.length ca, .slice Ar n2 c2], .agg #[.slice Ab b.length cb, .slice Br n3 c3, .slice Bq n4 c4]] w fun e w' => e = .returned (.bool (fitB a b)) ∧ Below w.heap.size w w' := by
  obtain ⟨m, hm⟩ : ∃ m, m = a.length := ⟨_, rfl⟩
  obtain ⟨n, hn⟩ : ∃ n, n = b.length := ⟨_, rfl⟩
  have hno1 := fit_no1 (a := a) (b := b)
  rw [← hm, ← hn] at hno1
  rw [← hm, ← hn]
  rw [← hn] at hbl
  obtain ⟨w2, hw2⟩ : ∃ w2, w2 = (w.alloc (.cells #[.slice Al n1 c1, .slice Aa m ca, .slice Ar n2 c2] 85)).alloc (.cells #[.slice Ab n cb, .slice Br n3 c3, .slice Bq n4 c4] 85) := ⟨_, rfl⟩
  have f1 : w2.cell? ⟨w.heap.size, 1, none⟩ = some (.slice Aa m ca) := by rw [hw2]; simp [go_sem]
  have f2 : w2.cell? ⟨w.heap.size + 1, 0, none⟩ = some (.slice Ab n cb) := by rw [hw2]; simp [go_sem]
  have HB2 : Hid (Below w.heap.size w w2) := by rw [hw2]; exact ((Below.refl _ _).alloc (Nat.le_refl _) _).alloc (by simp) _
  have Ra := hid ra; have Rb := hid rb; have HM := hid hm; have HN := hid hn; have HA := hid ha; have HB := hid hb
  clear ra rb hm hn ha hb
  by_cases hmn : m = n
  · subst hmn
    by_cases h0 : m = 0
    · have HF := hid (hno1 (by omega))
      subst h0
      clear hno1
      go_enter Try.func68, Try.ntmps68
      go_wp2_with fail
      go_ret
      exact ⟨by rw [HF.out]; rfl, ((Below.refl _ _).alloc (Nat.le_refl _) _).alloc (by simp) _⟩
    · have h1 : ((m : Int) == 0) = false := by simp; omega
      have h1b : ((m : Int) == m) = true := by simp
      clear hno1
      obtain ⟨ba, oa, rfl, hba, hca⟩ := Ra.out.at (by rw [← HM.out]; omega)
      obtain ⟨bb, ob, rfl, hbb, hcb⟩ := Rb.out.at (by rw [← HN.out]; omega)
      have HCA := hid (fun j (hj : j < a.length) => (HB2.out.cell (p := ⟨ba, oa + j, none⟩) hba).trans (hca j hj))
      have HCB := hid (fun j (hj : j < b.length) => (HB2.out.cell (p := ⟨bb, ob + j, none⟩) hbb).trans (hcb j hj))
      have p1 := HCA.out 0 (by rw [← HM.out]; omega)
      have p2 := HCB.out 0 (by rw [← HN.out]; omega)
      have l1 := HA.out 0 (by rw [← HM.out]; omega)
      have l2 := HB.out 0 (by rw [← HN.out]; omega)
      rw [Nat.add_zero] at p1 p2
      obtain ⟨x0, hx0⟩ : ∃ x0, x0 = nth a 0 := ⟨_, rfl⟩
      obtain ⟨y0, hy0⟩ : ∃ y0, y0 = nth b 0 := ⟨_, rfl⟩
      rw [← hx0] at p1 l1
      rw [← hy0] at p2 l2
      have HX0 := hid hx0; have HY0 := hid hy0
      clear hca hcb hx0 hy0
      obtain ⟨l1a, l1b⟩ := l1
      obtain ⟨l2a, l2b⟩ := l2
      go_enter Try.func68, Try.ntmps68
      go_wp2_with fail
      rw [← hw2]
      clear hw2
      go_loopw [5] (fun i wr => ∃ k : Nat, k ≤ m ∧ i = .int .i64 k ∧ Hid (FitTo a b k) ∧ ∃ q, wr = w2.drewN q) (fun i _ => m - (intOf i).toNat)
      case atStart => exact ⟨0, by omega, rfl, (fun j h => by omega), 0, rfl⟩
      case round =>
        obtain ⟨k, hk, rfl, hG, q, rfl⟩ := hrel
        by_cases hkn : k < m
        · have p3 := HCA.out k (by rw [← HM.out]; exact hkn)
          have p4 := HCB.out k (by rw [← HN.out]; exact hkn)
          have l3 := HA.out k (by rw [← HM.out]; exact hkn)
          have l4 := HB.out k (by rw [← HN.out]; exact hkn)
          have hno := fit_no2 (a := a) (b := b) (k := k) (by rw [← HN.out]; exact hkn)
          have hye := fitTo_s hG.out
          rw [← HX0.out, ← HY0.out] at hno hye
          generalize nth a k = x at p3 l3 hno hye
          generalize nth b k = y at p4 l4 hno hye
          obtain ⟨l3a, l3b⟩ := l3
          obtain ⟨l4a, l4b⟩ := l4
          have HNO := hid hno; have HYE := hid hye
          clear hno hye
          by_cases hs : x + y = x0 + y0
          · have hs2 : ((x + y : Int) == x0 + y0) = true := by simp; omega
            go_wp2_with fail
            go_quiet (fail)
            go_wp2_with fail
            go_roundw
            case rel => exact ⟨k + 1, by omega, by go_num, HYE.out hs, q + nq, rfl⟩
            case measure => simp [intOf]; omega
          · have hs2 : ((x + y : Int) == x0 + y0) = false := by simp; omega
            go_wp2_with fail
            go_quiet (fail)
            go_wp2_with fail
            go_ret
            exact ⟨by rw [HNO.out hs]; rfl, by first | exact below_drewN HB2.out _ | exact below_drewN (below_drewN HB2.out _) _⟩
        · obtain rfl : m = k := by omega
          have HY := hid (fit_yes (a := a) (b := b) (by rw [← HM.out, ← HN.out]) (by rw [← HN.out]; omega) (by rw [← HN.out]; exact hG.out))
          go_wp2_with fail
          go_ret
          exact ⟨by rw [HY.out]; rfl, below_drewN HB2.out _⟩
  · have HF := hid (hno1 (by omega))
    have h1 : ((m : Int) == n) = false := by simp; omega
    have h1b : ((m : Int) != n) = true := by simp; omega
    clear hno1
    go_enter Try.func68, Try.ntmps68
    go_wp2_with fail
    go_ret
    exact ⟨by rw [HF.out]; rfl, ((Below.refl _ _).alloc (Nat.le_refl _) _).alloc (by simp) _⟩
end Go.Proofs.Ytoljnbbhoeloeaa

/- WALK: Fit, of the library and of the document's answer. -/
namespace Go.Proofs.Ytoljnbbhoeloeaa
open Go.RowKit
def fitErr (bs : List Bk) (x y : Int) : Int := if blksErr bs ≠ 0 then blksErr bs else if (0 ≤ x ∧ x < bs.length) ∧ (0 ≤ y ∧ y < bs.length) ∧ x ≠ y then 0 else 1
def bR (bs : List Bk) (i : Nat) : List Int := match bs[i]? with
  | some b => b.r.2.2
  | none => []
def bL (bs : List Bk) (i : Nat) : List Int := match bs[i]? with
  | some b => b.l.2.2
  | none => []
def fitIs (bs : List Bk) (x y : Int) : Bool := if fitErr bs x y = 0 then fitB (bR bs x.toNat) (bL bs y.toNat) else false
theorem fit_e1 {bs : List Bk} {x y : Int} (h : blksErr bs ≠ 0) : fitErr bs x y = blksErr bs ∧ fitIs bs x y = false := by
  have h1 : fitErr bs x y = blksErr bs := if_pos h
  exact ⟨h1, by unfold fitIs; rw [h1, if_neg h]⟩
theorem fit_e2 {bs : List Bk} {x y : Int} (h : blksErr bs = 0) (h2 : ¬ ((0 ≤ x ∧ x < bs.length) ∧ (0 ≤ y ∧ y < bs.length) ∧ x ≠ y)) : fitErr bs x y = 1 ∧ fitIs bs x y = false := by
  have h1 : fitErr bs x y = 1 := by unfold fitErr; rw [if_neg (by simp [h]), if_neg h2]
  exact ⟨h1, by unfold fitIs; rw [h1]; rfl⟩
theorem fit_e3 {bs : List Bk} {i j : Nat} (h : blksErr bs = 0) (hi : i < bs.length) (hj : j < bs.length) (hne : i ≠ j) : fitErr bs i j = 0 ∧ fitIs bs i j = fitB bs[i].r.2.2 bs[j].l.2.2 := by
  have h1 : fitErr bs i j = 0 := by unfold fitErr; rw [if_neg (by simp [h]), if_pos (by omega)]
  refine ⟨h1, ?_⟩
  unfold fitIs bR bL
  rw [if_pos h1, Int.toNat_natCast, Int.toNat_natCast, List.getElem?_eq_getElem hi, List.getElem?_eq_getElem hj]
theorem blks_low {bs : List Bk} (h : blksErr bs = 0) {b : Bk} (hb : b ∈ bs) : Low b.l.2.2 ∧ Low b.r.2.2 ∧ b.l.2.2.length ≤ 12 ∧ b.r.2.2.length ≤ 12 := by
  obtain ⟨j, hj, rfl⟩ := List.getElem_of_mem hb
  have := (blks_ok h).2 j hj hj
  unfold blkOk at this
  simp only [Bool.and_eq_true, decide_eq_true_eq] at this
  obtain ⟨⟨⟨_, h1⟩, h2⟩, _⟩ := this
  exact ⟨(low_of h1).1, (low_of h2).1, (low_of h1).2, (low_of h2).2⟩
set_option maxRecDepth 100000 in
set_option maxHeartbeats 4000000 in
theorem fit_any (bs : List Bk) (x y : Int) (A : Option Addr) (c : Nat) (w : World) (r : Bks w w.heap.size A bs) :
    Calls Try.prog 34 #[.slice A bs.length c, .int .i64 x, .int .i64 y] w fun e w' => e = .returned (.tuple #[.bool (fitIs bs x y), .int .i64 (fitErr bs x y)]) ∧ Below w.heap.size w w' := by
  have HC := hid (checkBlocks_any bs A c w r)
  obtain ⟨n, hn⟩ : ∃ n, n = bs.length := ⟨_, rfl⟩
  rw [← hn] at HC ⊢
  by_cases h0 : blksErr bs = 0
  · have hn8 := (blks_ok h0).1
    rw [← hn] at hn8
    rw [h0] at HC
    by_cases hx : 0 ≤ x ∧ x ≤ (n : Int) - 1
    · have hdx : decide (0 ≤ x ∧ x ≤ (n : Int) - 1) = true := decide_eq_true hx
      by_cases hy : 0 ≤ y ∧ y ≤ (n : Int) - 1
      · have hdy : decide (0 ≤ y ∧ y ≤ (n : Int) - 1) = true := decide_eq_true hy
        by_cases hxy : x = y
        · have H := hid (fit_e2 (x := x) (y := y) h0 (by omega))
          have hxe : (x == y) = true := by simp [hxy]
          clear r h0 hn hx hy hxy
          go_enter Try.func34, Try.ntmps34
          go_wp2_with (first | (go_at_call 32; refine HC.out.mono ?_; rintro e w3 ⟨rfl, hb3⟩; have HB3 := hid hb3) | (go_at_call 61; refine (within_any _ _ _ _).mono ?_; rintro e w' ⟨rfl, rfl⟩))
          go_ret2
          exact ⟨by rw [H.out.1, H.out.2]; rfl, HB3.out⟩
        · obtain ⟨i, rfl⟩ : ∃ i : Nat, x = i := ⟨x.toNat, by omega⟩
          obtain ⟨j, rfl⟩ : ∃ j : Nat, y = j := ⟨y.toNat, by omega⟩
          have hi : i < bs.length := by omega
          have hj : j < bs.length := by omega
          have H := hid (fit_e3 h0 hi hj (by omega))
          obtain ⟨b, o, rfl, hbB, hc⟩ := r.at (by omega)
          have a1 := (hc i hi).2.1
          have a2 := (hc j hj).1
          have r1 := (r.el _ (List.getElem_mem hi)).2.1
          have r2 := (r.el _ (List.getElem_mem hj)).1
          have l1 := (blks_low h0 (List.getElem_mem hi)).2.1
          have l3 := (blks_low h0 (List.getElem_mem hi)).2.2.2
          have l2 := (blks_low h0 (List.getElem_mem hj)).1
          have l4 := (blks_low h0 (List.getElem_mem hj)).2.2.1
          generalize bs[i] = bi at a1 r1 l1 l3 H
          generalize bs[j] = bj at a2 r2 l2 l4 H
          obtain ⟨_, ⟨Ar, cr, lr⟩, _, _, _⟩ := bi
          obtain ⟨⟨Al, cl, ll⟩, _, _, _, _⟩ := bj
          simp only [] at a1 a2 r1 r2 l1 l2 l3 l4 H
          rw [← Nat.add_assoc] at a1
          have hij : ((i : Int) == j) = false := by simp; omega
          have hi2 : i < n := by omega
          have hj2 : j < n := by omega
          have HF := hid (fun w3 (hb3 : Below w.heap.size w w3) (q : Nat) => fits_any lr ll Ar Al cr cl l1 l2 (by omega) (w3.drewN q) w.heap.size ((r1.below hb3).below (below_drewN (Below.refl _ _) _)) ((r2.below hb3).below (below_drewN (Below.refl _ _) _)))
          have A1 := hid (fun w3 (hb3 : Below w.heap.size w w3) => (hb3.cell (p := ⟨b, o + i * 3 + 1, none⟩) hbB).trans a1)
          have A2 := hid (fun w3 (hb3 : Below w.heap.size w w3) => (hb3.cell (p := ⟨b, o + j * 3, none⟩) hbB).trans a2)
          clear r h0 hn hx hy hxy hi hj hc a1 a2 r1 r2 l1 l2 l3 l4
          go_enter Try.func34, Try.ntmps34
          go_wp2_with (first | (go_at_call 32; refine HC.out.mono ?_; rintro e w3 ⟨rfl, hb3⟩; have HB3 := hid hb3; have c1 := A1.out _ hb3; have c2 := A2.out _ hb3) | (go_at_call 61; refine (within_any _ _ _ _).mono ?_; rintro e w' ⟨rfl, rfl⟩))
          go_quiet ((go_at_call 67; go_must (exact (HF.out _ HB3.out _).mono fun e w' h => ⟨h.1, by obtain ⟨_, n5, hw⟩ := h; exact ⟨_, by rw [hw, World.drewN_drewN]⟩⟩)))
          go_wp2_with fail
          go_ret2
          exact ⟨by rw [H.out.1, H.out.2]; rfl, below_drewN HB3.out _⟩
      · have hdy : decide (0 ≤ y ∧ y ≤ (n : Int) - 1) = false := decide_eq_false hy
        have H := hid (fit_e2 (x := x) (y := y) h0 (by omega))
        clear r h0 hn hx hy
        go_enter Try.func34, Try.ntmps34
        go_wp2_with (first | (go_at_call 32; refine HC.out.mono ?_; rintro e w3 ⟨rfl, hb3⟩; have HB3 := hid hb3) | (go_at_call 61; refine (within_any _ _ _ _).mono ?_; rintro e w' ⟨rfl, rfl⟩))
        go_ret2
        exact ⟨by rw [H.out.1, H.out.2]; rfl, HB3.out⟩
    · have hdx : decide (0 ≤ x ∧ x ≤ (n : Int) - 1) = false := decide_eq_false hx
      have H := hid (fit_e2 (x := x) (y := y) h0 (by omega))
      clear r h0 hn hx
      go_enter Try.func34, Try.ntmps34
      go_wp2_with (first | (go_at_call 32; refine HC.out.mono ?_; rintro e w3 ⟨rfl, hb3⟩; have HB3 := hid hb3) | (go_at_call 61; refine (within_any _ _ _ _).mono ?_; rintro e w' ⟨rfl, rfl⟩))
      go_ret2
      exact ⟨by rw [H.out.1, H.out.2]; rfl, HB3.out⟩
  · have H := hid (fit_e1 (x := x) (y := y) h0)
    generalize blksErr bs = e0 at h0 HC H
    clear r hn
    go_enter Try.func34, Try.ntmps34
    go_wp2_with (first | (go_at_call 32; refine HC.out.mono ?_; rintro e w3 ⟨rfl, hb3⟩; have HB3 := hid hb3))
    go_ret2
    exact ⟨by rw [H.out.1, H.out.2]; rfl, HB3.out⟩
end Go.Proofs.Ytoljnbbhoeloeaa

/- WALK: the reference's Fit. -/
namespace Go.Proofs.Ytoljnbbhoeloeaa
open Go.RowKit
set_option maxRecDepth 100000 in
set_option maxHeartbeats 4000000 in
theorem ref_fitW_any (bs : List Bk) (x y : Int) (A : Option Addr) (c : Nat) (w : World) (r : Bks w w.heap.size A bs) :
    Calls Try.prog 35 #[.slice A bs.length c, .int .i64 x, .int .i64 y] w fun e w' => e = .returned (.tuple #[.bool (fitIs bs x y), .int .i64 (fitErr bs x y)]) ∧ Below w.heap.size w w' := by
  have HC := hid (ref_checkBlocks_any bs A c w r)
  obtain ⟨n, hn⟩ : ∃ n, n = bs.length := ⟨_, rfl⟩
  rw [← hn] at HC ⊢
  by_cases h0 : blksErr bs = 0
  · have hn8 := (blks_ok h0).1
    rw [← hn] at hn8
    rw [h0] at HC
    by_cases hok : (0 ≤ x ∧ x < n) ∧ (0 ≤ y ∧ y < n) ∧ x ≠ y
    · obtain ⟨i, rfl⟩ : ∃ i : Nat, x = i := ⟨x.toNat, by omega⟩
      obtain ⟨j, rfl⟩ : ∃ j : Nat, y = j := ⟨y.toNat, by omega⟩
      have hi : i < bs.length := by omega
      have hj : j < bs.length := by omega
      have H := hid (fit_e3 h0 hi hj (by omega))
      obtain ⟨b, o, rfl, hbB, hc⟩ := r.at (by omega)
      have a0 := hc i hi
      have a3 := hc j hj
      have r1 := (r.el _ (List.getElem_mem hi)).2.1
      have r2 := (r.el _ (List.getElem_mem hj)).1
      have l1 := (blks_low h0 (List.getElem_mem hi)).2.1
      have l3 := (blks_low h0 (List.getElem_mem hi)).2.2.2
      have l2 := (blks_low h0 (List.getElem_mem hj)).1
      have l4 := (blks_low h0 (List.getElem_mem hj)).2.2.1
      generalize bs[i] = bi at a0 r1 l1 l3 H
      generalize bs[j] = bj at a3 r2 l2 l4 H
      obtain ⟨⟨Al1, cl1, ll1⟩, ⟨Ar, cr, lr⟩, ra1, rc1, rows1⟩ := bi
      obtain ⟨⟨Al, cl, ll⟩, ⟨Ar2, cr2, lr2⟩, ra2, rc2, rows2⟩ := bj
      simp only [] at a0 a3 r1 r2 l1 l2 l3 l4 H
      rw [← Nat.add_assoc, ← Nat.add_assoc] at a0 a3
      have hij : ((i : Int) == j) = false := by simp; omega
      have hi2 : i < n := by omega
      have hj2 : j < n := by omega
      have HF := hid (fun w3 (hb3 : Below w.heap.size w w3) => ref_fit_any lr ll Ar Al Al1 Ar2 ra1 ra2 cr cl ll1.length cl1 rows1.length rc1 lr2.length cr2 rows2.length rc2 l1 l2 (by omega) w3 ((r1.below hb3).more hb3.size) ((r2.below hb3).more hb3.size))
      have A0 := hid (fun w3 (hb3 : Below w.heap.size w w3) => (hb3.cell (p := ⟨b, o + i * 3, none⟩) hbB).trans a0.1)
      have A1 := hid (fun w3 (hb3 : Below w.heap.size w w3) => (hb3.cell (p := ⟨b, o + i * 3 + 1, none⟩) hbB).trans a0.2.1)
      have A2 := hid (fun w3 (hb3 : Below w.heap.size w w3) => (hb3.cell (p := ⟨b, o + i * 3 + 2, none⟩) hbB).trans a0.2.2)
      have A3 := hid (fun w3 (hb3 : Below w.heap.size w w3) => (hb3.cell (p := ⟨b, o + j * 3, none⟩) hbB).trans a3.1)
      have A4 := hid (fun w3 (hb3 : Below w.heap.size w w3) => (hb3.cell (p := ⟨b, o + j * 3 + 1, none⟩) hbB).trans a3.2.1)
      have A5 := hid (fun w3 (hb3 : Below w.heap.size w w3) => (hb3.cell (p := ⟨b, o + j * 3 + 2, none⟩) hbB).trans a3.2.2)
      clear r h0 hn hok hi hj hc a0 a3 r1 r2 l1 l2 l3 l4
      generalize ll1.length = n1 at A0 HF
      generalize lr.length = n2 at A1 HF
      generalize rows1.length = n3 at A2 HF
      generalize ll.length = n4 at A3 HF
      generalize lr2.length = n5 at A4 HF
      generalize rows2.length = n6 at A5 HF
      go_enter Try.func35, Try.ntmps35
      go_wp2_with (first | (go_at_call 33; refine HC.out.mono ?_; rintro e w3 ⟨rfl, hb3⟩; have HB3 := hid hb3; have c0 := A0.out _ hb3; have c1 := A1.out _ hb3; have c2 := A2.out _ hb3; have c3 := A3.out _ hb3; have c4 := A4.out _ hb3; have c5 := A5.out _ hb3))
      have hbw : b < w3.heap.size := by have := HB3.out.size; omega
      go_region_held3 (fun w' => w'.cell? ⟨b, o + i * 3, none⟩ = some (.slice Al1 n1 cl1) ∧ w'.cell? ⟨b, o + i * 3 + 1, none⟩ = some (.slice Ar n2 cr) ∧ w'.cell? ⟨b, o + i * 3 + 2, none⟩ = some (.slice ra1 n3 rc1) ∧ w'.cell? ⟨b, o + j * 3, none⟩ = some (.slice Al n4 cl) ∧ w'.cell? ⟨b, o + j * 3 + 1, none⟩ = some (.slice Ar2 n5 cr2) ∧ w'.cell? ⟨b, o + j * 3 + 2, none⟩ = some (.slice ra2 n6 rc2)) (first | exact ⟨c0, c1, c2, c3, c4, c5⟩ | exact ⟨e0, e1, e2, e3, e4, e5⟩)
        (first | (go_at_call 68; refine (HF.out _ (by first | exact HB3.out | exact HB3.out.drew | exact below_drewN HB3.out _)).mono ?_; rintro e w4 ⟨rfl, hb4⟩; have e0 := (hb4.cell (p := ⟨b, o + i * 3, none⟩) (by simp; omega)).trans c0; have e1 := (hb4.cell (p := ⟨b, o + i * 3 + 1, none⟩) (by simp; omega)).trans c1; have e2 := (hb4.cell (p := ⟨b, o + i * 3 + 2, none⟩) (by simp; omega)).trans c2; have e3 := (hb4.cell (p := ⟨b, o + j * 3, none⟩) (by simp; omega)).trans c3; have e4 := (hb4.cell (p := ⟨b, o + j * 3 + 1, none⟩) (by simp; omega)).trans c4; have e5 := (hb4.cell (p := ⟨b, o + j * 3 + 2, none⟩) (by simp; omega)).trans c5))
      go_wp2_with fail
      go_ret2
      exact ⟨by rw [H.out.1, H.out.2]; rfl, HB3.out.trans ((((Below.refl _ _).drew).trans hb4).mono HB3.out.size)⟩
    · have H := hid (fit_e2 (x := x) (y := y) h0 (by rw [← hn]; exact hok))
      clear r h0 hn
      by_cases hx : x < 0
      · go_enter Try.func35, Try.ntmps35
        clear hok
        go_wp2_with (first | (go_at_call 33; refine HC.out.mono ?_; rintro e w3 ⟨rfl, hb3⟩; have HB3 := hid hb3))
        go_ret2
        exact ⟨by rw [H.out.1, H.out.2]; rfl, HB3.out⟩
      · by_cases hx2 : (n : Int) ≤ x
        · clear hok
          go_enter Try.func35, Try.ntmps35
          go_wp2_with (first | (go_at_call 33; refine HC.out.mono ?_; rintro e w3 ⟨rfl, hb3⟩; have HB3 := hid hb3))
          go_ret2
          exact ⟨by rw [H.out.1, H.out.2]; rfl, HB3.out⟩
        · by_cases hy : y < 0
          · clear hok
            go_enter Try.func35, Try.ntmps35
            go_wp2_with (first | (go_at_call 33; refine HC.out.mono ?_; rintro e w3 ⟨rfl, hb3⟩; have HB3 := hid hb3))
            go_ret2
            exact ⟨by rw [H.out.1, H.out.2]; rfl, HB3.out⟩
          · by_cases hy2 : (n : Int) ≤ y
            · clear hok
              go_enter Try.func35, Try.ntmps35
              go_wp2_with (first | (go_at_call 33; refine HC.out.mono ?_; rintro e w3 ⟨rfl, hb3⟩; have HB3 := hid hb3))
              go_ret2
              exact ⟨by rw [H.out.1, H.out.2]; rfl, HB3.out⟩
            · obtain rfl : x = y := by
                by_cases e : x = y
                · exact e
                · exact absurd ⟨⟨by omega, by omega⟩, ⟨by omega, by omega⟩, e⟩ hok
              clear hok
              go_enter Try.func35, Try.ntmps35
              go_wp2_with (first | (go_at_call 33; refine HC.out.mono ?_; rintro e w3 ⟨rfl, hb3⟩; have HB3 := hid hb3))
              go_ret2
              exact ⟨by rw [H.out.1, H.out.2]; rfl, HB3.out⟩
  · have H := hid (fit_e1 (x := x) (y := y) h0)
    generalize blksErr bs = e0 at h0 HC H
    clear r hn
    go_enter Try.func35, Try.ntmps35
    go_wp2_with (first | (go_at_call 33; refine HC.out.mono ?_; rintro e w3 ⟨rfl, hb3⟩; have HB3 := hid hb3))
    go_ret2
    exact ⟨by rw [H.out.1, H.out.2]; rfl, HB3.out⟩
end Go.Proofs.Ytoljnbbhoeloeaa
