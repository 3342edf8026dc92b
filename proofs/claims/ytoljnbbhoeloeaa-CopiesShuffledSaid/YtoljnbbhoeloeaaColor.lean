/- WALK: the reference's color. -/
import Derived.Test.YtoljnbbhoeloeaaAssign
import Derived.Test.YtoljnbbhoeloeaaApW
import Derived.Test.YtoljnbbhoeloeaaCostW2
namespace Go.Proofs.Ytoljnbbhoeloeaa
open Go.RowKit
/-- The pairs of copies that are apart, as the reference keeps them. -/
def pz (pl : List (Nat × Nat)) : List (Int × Int) := pl.map fun p : Nat × Nat => ((p.1 : Int), (p.2 : Int))
theorem pz_len (pl : List (Nat × Nat)) : (pz pl).length = pl.length := by simp [pz]
structure Prs (N : Nat) (ap : Nat → Nat → Bool) (pl : List (Nat × Nat)) : Prop where
  lt : ∀ p ∈ pl, p.1 < p.2 ∧ p.2 < N
  ap_ : ∀ i k, k < i → i < N → (ap i k = true ↔ (k, i) ∈ pl)
/-- Whether a pair forbids the scribe s behind l. -/
def hit (l : List Nat) (s : Nat) (p : Nat × Nat) : Bool := decide (p.2 = l.length) && decide (l.getD p.1 0 = s)
theorem hit_clash {N : Nat} {ap : Nat → Nat → Bool} {pl : List (Nat × Nat)} (h : Prs N ap pl) {l : List Nat} {s : Nat} (hl : l.length < N) : pl.any (hit l s) = clash ap l s := by
  rw [Bool.eq_iff_iff]
  unfold clash
  rw [List.any_eq_true, List.any_eq_true]
  constructor
  · rintro ⟨p, hp, hh⟩
    simp only [hit, Bool.and_eq_true, decide_eq_true_eq] at hh
    have h1 := h.lt p hp
    refine ⟨p.1, List.mem_range.2 (by omega), ?_⟩
    simp only [Bool.and_eq_true, decide_eq_true_eq]
    refine ⟨hh.2, (h.ap_ l.length p.1 (by omega) hl).2 ?_⟩
    rw [← hh.1]
    exact hp
  · rintro ⟨k, hk, hh⟩
    simp only [Bool.and_eq_true, decide_eq_true_eq] at hh
    have hk := List.mem_range.1 hk
    exact ⟨(k, l.length), (h.ap_ l.length k hk hl).1 hh.2, by simp only [hit, Bool.and_eq_true, decide_eq_true_eq]; exact ⟨trivial, hh.1⟩⟩
theorem hit_step {pl : List (Nat × Nat)} {l : List Nat} {s m : Nat} (h : m < pl.length) : (pl.take (m + 1)).any (hit l s) = ((pl.take m).any (hit l s) || hit l s pl[m]) := by
  rw [List.take_add_one, List.getElem?_eq_getElem h, Option.toList_some, List.any_append, List.any_cons, List.any_nil, Bool.or_false]
theorem hit_no1 {l : List Nat} {s i k : Nat} (h : ¬ k = l.length) : hit l s (i, k) = false := by unfold hit; rw [decide_eq_false h]; rfl
theorem hit_no2 {l : List Nat} {s i k : Nat} (h : ¬ l.getD i 0 = s) : hit l s (i, k) = false := by unfold hit; rw [decide_eq_false (p := l.getD (i, k).1 0 = s) h, Bool.and_false]
theorem hit_yes {l : List Nat} {s i : Nat} (h : l.getD i 0 = s) : hit l s (i, l.length) = true := by unfold hit; rw [decide_eq_true (p := l.getD (i, l.length).1 0 = s) h, decide_eq_true (p := (i, l.length).2 = l.length) rfl]; rfl
theorem nxt_take {l : List Nat} {k : Nat} (h : k < l.length) : nxt (l.take (k + 1)) = max (nxt (l.take k)) (l.getD k 0 + 1) := by
  rw [List.take_add_one, List.getElem?_eq_getElem h]
  show nxt (l.take k ++ [l[k]]) = _
  rw [nxt_snoc]
  simp [List.getD, List.getElem?_eq_getElem h]
theorem own_snoc {w : World} {B : Nat} {v : Value} {l : List Nat} {s : Nat} (h : w.ownsRow B 3 1 v (0 + l.length + 1) (ints ([] ++ nz l) ++ [.int .i64 s])) : w.ownsRow 0 3 1 v (l ++ [s]).length (ints (nz (l ++ [s]))) := by
  have := own_base h (B' := 0) (Nat.zero_le _)
  rw [Nat.zero_add, List.nil_append] at this
  rw [nz_snoc, ints_append, List.length_append]
  exact this
theorem own_at {w : World} {B : Nat} {v : Value} {l : List Nat} (h : w.ownsRow B 3 1 v l.length (ints (nz l))) : ∃ A c, v = .slice A l.length c ∧ Part w A l.length c (nz l) ∧ (0 < l.length → ∃ g, A = some ⟨g, 0, none⟩ ∧ g < w.heap.size ∧ ∀ j, j < l.length → w.cell? ⟨g, j, none⟩ = some (.int .i64 (l.getD j 0 : Nat))) := by
  have hv : ∃ A c, v = .slice A l.length c := by
    rcases h.2 with ⟨h2, h3⟩ | ⟨g', cap, cur, hv, _⟩
    · exact ⟨none, 0, by rw [h2, h3]⟩
    · exact ⟨_, cap, hv⟩
  obtain ⟨A, c, rfl⟩ := hv
  refine ⟨A, c, rfl, part_own h, fun hl => ?_⟩
  obtain ⟨g, c', hv, hg, hgl⟩ := h.form hl
  injection hv with e1 _ e3
  subst e1; subst e3
  refine ⟨g, rfl, hgl, fun j hj => ?_⟩
  have := own_int h (Below.refl _ w) hj
  rw [this, nz_get hj]
set_option maxRecDepth 100000 in
set_option maxHeartbeats 4000000 in
theorem color_any (N S : Nat) (ap : Nat → Nat → Bool) (pl : List (Nat × Nat)) (hP : Prs N ap pl) (hN : N ≤ 8) (hS : S ≤ 8) (hpl : pl.length ≤ 1000) (Ap : Option Addr) (cap : Nat) : ∀ (f : Nat) (l : List Nat) (v : Value) (w : World), l.length + f = N → nxt l ≤ l.length →
    w.ownsRow 0 3 1 v l.length (ints (nz l)) → Rp w w.heap.size Ap (pz pl) →
    Calls Try.prog 72 #[v, .int .i64 N, .int .i64 S, .slice Ap pl.length cap] w
      fun e w' => ∃ v', e = .returned v' ∧ w'.ownsRow 0 3 1 v' ((dfs ap S f l).getD l).length (ints (nz ((dfs ap S f l).getD l))) ∧ Below w.heap.size w w' := by
  intro f
  induction f with
  | zero =>
    intro l v w hl hx hown hr
    obtain ⟨A, c, rfl, _, _⟩ := own_at hown
    have hd : ((l.length : Int) == N) = true := by simp; omega
    have HO := hid hown
    clear hown hr
    go_enter Try.func72, Try.ntmps72
    go_wp2_with fail
    go_ret
    exact ⟨_, rfl, HO.out, Below.refl _ _⟩
  | succ f ih =>
    intro l v w hl hx hown hr
    obtain ⟨A, c, rfl, hpart, hat⟩ := own_at hown
    have hd : ((l.length : Int) == N) = false := by simp; omega
    have HO := hid hown; have HR := hid hr; have HPT := hid hpart; have HAT := hid hat; have IH := hid ih; have HP := hid hP
    clear hown hr hpart hat ih hP
    go_enter Try.func72, Try.ntmps72
    go_wp2_with fail
    go_loopw [9, 10] (fun nv iv wr => ∃ k : Nat, k ≤ l.length ∧ iv = .int .i64 k ∧ nv = .int .i64 (nxt (l.take k)) ∧ ∃ q, wr = w.drewN q) (fun _ i _ => l.length - (intOf i).toNat)
    case atStart => exact ⟨0, by omega, rfl, rfl, 0, rfl⟩
    case round =>
      obtain ⟨k, hk, rfl, rfl, q, rfl⟩ := hrel
      by_cases hkl : k < l.length
      · obtain ⟨g, rfl, hgl, hcs⟩ := HAT.out (by omega)
        have p1 := hcs k hkl
        have hnx := nxt_take hkl
        obtain ⟨x, hxk⟩ : ∃ x, l.getD k 0 = x := ⟨_, rfl⟩
        obtain ⟨y, hy⟩ : ∃ y, nxt (l.take k) = y := ⟨_, rfl⟩
        obtain ⟨z, hz⟩ : ∃ z, nxt (l.take (k + 1)) = z := ⟨_, rfl⟩
        have hxb : x < 8 := by
          have := le_nxt (l := l) (l.getD k 0) (by simp [List.getD, List.getElem?_eq_getElem hkl])
          omega
        rw [hxk] at p1
        rw [hxk, hy, hz] at hnx
        rw [hy]
        have HZ := hid hz; have HNX := hid hnx
        clear hxk hy hz hnx hcs
        go_wp2_with fail
        all_goals
          go_roundw
          case rel => exact ⟨k + 1, by omega, by go_num, by rw [HZ.out, HNX.out]; go_num, q, rfl⟩
          case measure => simp [intOf]; omega
      · obtain rfl : k = l.length := by omega
        rw [List.take_length]
        obtain ⟨w1, hw1⟩ : ∃ w1, w1 = w.drewN q := ⟨_, rfl⟩
        have HB1 : Hid (Below w.heap.size w w1) := by rw [hw1]; exact below_drewN (Below.refl _ _) _
        rw [← hw1]
        clear hw1
        go_wp2_with fail
        go_loopw [11] (fun sv wr => ∃ s : Nat, sv = .int .i64 s ∧ s ≤ min S (nxt l + 1) ∧ Hid (NoneTo ap S f l s) ∧ Hid (Below w.heap.size w wr)) (fun v _ => 20 - (intOf v).toNat)
        case atStart => exact ⟨0, rfl, by omega, fun u hu => by omega, HB1.out⟩
        case round =>
          obtain ⟨s, rfl, hs, hE, hB⟩ := hrel
          obtain ⟨wo, rfl⟩ : ∃ wo : World, wo = wr := ⟨_, rfl⟩
          by_cases hlt : s < min S (nxt l + 1)
          · have d1 : s ≤ nxt l := by omega
            have d2 : s < S := by omega
            go_wp2_with fail
            go_loopw [12, 13] (fun bv iv wi => ∃ (m : Nat) (b : Bool), m ≤ pl.length ∧ iv = .int .i64 m ∧ bv = .bool b ∧ Hid (b = !(pl.take m).any (hit l s)) ∧ ∃ q, wi = wo.drewN q) (fun _ i _ => pl.length - (intOf i).toNat)
            case atStart => exact ⟨0, true, by omega, rfl, rfl, rfl, 0, rfl⟩
            case round =>
              obtain ⟨m, b, hm, rfl, rfl, hb, q2, rfl⟩ := hrel
              by_cases hmP : m < pl.length
              · obtain ⟨bp, op, rfl, hbp, hcp⟩ := HR.out.at (by rw [pz_len]; omega)
                obtain ⟨c3, c4⟩ := hcp m (by rw [pz_len]; exact hmP)
                have e3 := (hB.out.cell (p := ⟨bp, op + m * 2, none⟩) hbp).trans c3
                have e4 := (hB.out.cell (p := ⟨bp, op + (m * 2 + 1), none⟩) hbp).trans c4
                have hst := hit_step (l := l) (s := s) hmP
                have hlm := HP.out.lt pl[m] (List.getElem_mem hmP)
                simp only [pz, List.getElem_map] at e3 e4
                rw [← Nat.add_assoc] at e4
                clear c3 c4 hcp
                generalize pl[m] = pm at e3 e4 hst hlm
                obtain ⟨i, k⟩ := pm
                simp only [] at e3 e4 hlm
                obtain ⟨hik, hkN⟩ := hlm
                by_cases h1 : k = l.length
                · subst h1
                  obtain ⟨g, rfl, hgl, hcs⟩ := HAT.out (by omega)
                  have p1 := (hB.out.cell (p := ⟨g, i, none⟩) hgl).trans (hcs i hik)
                  clear hcs
                  obtain ⟨x, hxk⟩ : ∃ x, l.getD i 0 = x := ⟨_, rfl⟩
                  rw [hxk] at p1
                  by_cases h2 : x = s
                  · have HB2 : Hid (false = !(pl.take (m + 1)).any (hit l s)) := by
                      rw [hst, hit_yes (hxk.trans h2), Bool.or_true]; rfl
                    clear hst hxk
                    go_wp2_with fail
                    go_roundw
                    case rel => exact ⟨m + 1, false, by omega, by go_num, rfl, HB2.out, q2, rfl⟩
                    case measure => simp [intOf]; omega
                  · have HB2 : Hid (b = !(pl.take (m + 1)).any (hit l s)) := by
                      rw [hst, hit_no2 (by rw [hxk]; exact h2), Bool.or_false]; exact hb.out
                    clear hst hxk
                    go_wp2_with fail
                    go_roundw
                    case rel => exact ⟨m + 1, b, by omega, by go_num, rfl, HB2.out, q2, rfl⟩
                    case measure => simp [intOf]; omega
                · have HB2 : Hid (b = !(pl.take (m + 1)).any (hit l s)) := by
                    rw [hst, hit_no1 h1, Bool.or_false]; exact hb.out
                  clear hst
                  go_wp2_with fail
                  go_roundw
                  case rel => exact ⟨m + 1, b, by omega, by go_num, rfl, HB2.out, q2, rfl⟩
                  case measure => simp [intOf]; omega
              · obtain rfl : m = pl.length := by omega
                have hcl := hb.out
                rw [List.take_length, hit_clash HP.out (by omega)] at hcl
                obtain ⟨w2, hw2⟩ : ∃ w2, w2 = wo.drewN q2 := ⟨_, rfl⟩
                have HB2 : Hid (Below w.heap.size w w2) := by rw [hw2]; exact below_drewN hB.out _
                rw [← hw2]
                clear hw2
                cases hc : clash ap l s with
                | true =>
                  rw [hc] at hcl
                  obtain rfl : b = false := hcl
                  have HN := hid (noneTo_s hE.out (show stp1 ap S f l s = none by rw [stp1, hc]; rfl))
                  clear hc
                  go_wp2_with fail
                  go_roundw
                  case rel => exact ⟨s + 1, by go_num, by omega, HN.out, HB2.out⟩
                  case measure => simp [intOf]; omega
                | false =>
                  rw [hc] at hcl
                  obtain rfl : b = true := hcl
                  have Hcl := hid hc
                  clear hc
                  have hpart := own_keep HO.out HB2.out
                  have HPT2 := hid (part_own hpart)
                  clear hpart
                  cases hdd : dfs ap S f (l ++ [s]) with
                  | some r =>
                    have hrl := dfs_len _ _ _ hdd
                    rw [List.length_append, List.length_singleton] at hrl
                    have hrN : ((r.length : Int) == N) = true := by simp; omega
                    have HC : Hid (∀ v w', w'.ownsRow 0 3 1 v (l ++ [s]).length (ints (nz (l ++ [s]))) → Below w.heap.size w w' → Calls Try.prog 72 #[v, .int .i64 N, .int .i64 S, .slice Ap pl.length cap] w'
                        fun e w'' => ∃ v', e = .returned v' ∧ w''.ownsRow 0 3 1 v' r.length (ints (nz r)) ∧ Below w'.heap.size w' w'') := fun v w' h1 h2 => by
                      have := IH.out (l ++ [s]) v w' (by simp; omega) (by rw [nxt_snoc]; simp; omega) h1 ((HR.out.below h2).more h2.size)
                      rw [hdd] at this
                      exact this
                    have HRes := hid (dfs_some (ap := ap) (S := S) (f := f) (l := l) (r := r) hE.out hlt (by rw [stp1, Hcl.out]; exact hdd))
                    clear hdd hrl
                    go_wp2_with (first | (at_builtin; refine app_line rfl (.const (.slice none 0 0)) (.tmp 71) Try.underlying22 Try.infoInt rfl (by decide) rfl w2.heap.size _ _ [] rfl (World.ownsRow_nil _ _ _ _) A l.length c (nz l) rfl HPT2.out (by omega) (Nat.le_refl _) ?_; intro v4 w4 hown4 hgrow4; have HB4 := hid (below_app (Below.refl w2.heap.size w2) (World.ownsRow_nil w2 w2.heap.size 3 1) hgrow4 (Nat.le_refl _) (Nat.le_refl _)); have hown5 := hown4.alloc (.cells #[.int .i64 s] 3)) | (at_builtin; refine app_one rfl (.tmp 72) (.tmp 74) Try.underlying22 Try.infoInt rfl (by decide) rfl w2.heap.size _ _ _ rfl hown5 ⟨w4.heap.size, 0, none⟩ (.int .i64 s) rfl (cell_new1 _ _ _) rfl (by omega) (by have := HB4.out.size; simp; omega) ?_; intro v6 w6 hown6 hgrow6; have HB6 := hid (below_app (HB4.out.alloc HB4.out.size (.cells #[.int .i64 s] 3)) hown5 hgrow6 (Nat.le_refl _) (by have := HB4.out.size; simp; omega))) | (go_at_call 72; refine (HC.out _ _ (own_snoc hown6) (HB2.out.trans (HB6.out.mono HB2.out.size))).mono ?_; rintro e w7 ⟨v7, rfl, hown7, hb7⟩; obtain ⟨A7, c7, rfl, _, _⟩ := own_at hown7))
                    go_ret
                    exact ⟨_, rfl, by rw [HRes.out]; exact hown7, (HB2.out.trans (HB6.out.mono HB2.out.size)).trans (hb7.mono (HB2.out.trans (HB6.out.mono HB2.out.size)).size)⟩
                  | none =>
                    have hf0 : f ≠ 0 := by
                      rintro rfl
                      simp [dfs] at hdd
                    have hrN : (((l.length + 1 : Nat) : Int) == N) = false := by simp; omega
                    have hln : (l ++ [s]).length = l.length + 1 := by simp
                    have HC : Hid (∀ v w', w'.ownsRow 0 3 1 v (l ++ [s]).length (ints (nz (l ++ [s]))) → Below w.heap.size w w' → Calls Try.prog 72 #[v, .int .i64 N, .int .i64 S, .slice Ap pl.length cap] w'
                        fun e w'' => ∃ A7 c7, e = .returned (.slice A7 (l.length + 1) c7) ∧ Below w'.heap.size w' w'') := fun v w' h1 h2 => by
                      have := IH.out (l ++ [s]) v w' (by simp; omega) (by rw [nxt_snoc]; simp; omega) h1 ((HR.out.below h2).more h2.size)
                      rw [hdd] at this
                      refine this.mono ?_
                      rintro e w7 ⟨v7, rfl, hown7, hb7⟩
                      obtain ⟨A7, c7, rfl, _, _⟩ := own_at (l := l ++ [s]) hown7
                      exact ⟨A7, c7, by rw [hln], hb7⟩
                    have HN := hid (noneTo_s hE.out (show stp1 ap S f l s = none by rw [stp1, Hcl.out]; exact hdd))
                    clear hdd hln
                    go_wp2_with (first | (at_builtin; refine app_line rfl (.const (.slice none 0 0)) (.tmp 71) Try.underlying22 Try.infoInt rfl (by decide) rfl w2.heap.size _ _ [] rfl (World.ownsRow_nil _ _ _ _) A l.length c (nz l) rfl HPT2.out (by omega) (Nat.le_refl _) ?_; intro v4 w4 hown4 hgrow4; have HB4 := hid (below_app (Below.refl w2.heap.size w2) (World.ownsRow_nil w2 w2.heap.size 3 1) hgrow4 (Nat.le_refl _) (Nat.le_refl _)); have hown5 := hown4.alloc (.cells #[.int .i64 s] 3)) | (at_builtin; refine app_one rfl (.tmp 72) (.tmp 74) Try.underlying22 Try.infoInt rfl (by decide) rfl w2.heap.size _ _ _ rfl hown5 ⟨w4.heap.size, 0, none⟩ (.int .i64 s) rfl (cell_new1 _ _ _) rfl (by omega) (by have := HB4.out.size; simp; omega) ?_; intro v6 w6 hown6 hgrow6; have HB6 := hid (below_app (HB4.out.alloc HB4.out.size (.cells #[.int .i64 s] 3)) hown5 hgrow6 (Nat.le_refl _) (by have := HB4.out.size; simp; omega))) | (go_at_call 72; refine (HC.out _ _ (own_snoc hown6) (HB2.out.trans (HB6.out.mono HB2.out.size))).mono ?_; rintro e w7 ⟨A7, c7, rfl, hb7⟩))
                    have HB7 := hid ((HB2.out.trans (HB6.out.mono HB2.out.size)).trans (hb7.mono (HB2.out.trans (HB6.out.mono HB2.out.size)).size))
                    go_roundw
                    case rel => exact ⟨s + 1, by go_num, by omega, HN.out, HB7.out⟩
                    case measure => simp [intOf]; omega
          · have HRes := hid (dfs_none (ap := ap) (S := S) (f := f) (l := l) fun t ht => hE.out t (by omega))
            have HO2 := hid (own_keep HO.out hB.out)
            by_cases h1 : s ≤ nxt l
            · have h2 : ¬ s < S := by omega
              go_wp2_with fail
              go_ret
              exact ⟨_, rfl, by rw [HRes.out]; exact HO2.out, hB.out⟩
            · go_wp2_with fail
              go_ret
              exact ⟨_, rfl, by rw [HRes.out]; exact HO2.out, hB.out⟩
end Go.Proofs.Ytoljnbbhoeloeaa
