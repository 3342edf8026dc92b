/- WALK: the law CopiesVaries. -/
import Derived.Test.YtoljnbbhoeloeaaVarN
import Derived.Test.YtoljnbbhoeloeaaRefVarW
import Derived.Test.YtoljnbbhoeloeaaWorksW
namespace Go.Proofs.Ytoljnbbhoeloeaa
open Go.RowKit
theorem Lns.more {w : World} {B B' : Nat} {A : Option Addr} {ls : List Ln} (h : Lns w B A ls) (hB : B ≤ B') : Lns w B' A ls := ⟨h.row.more hB, fun t ht => (h.ln t ht).more hB⟩
theorem own_rd {w : World} {base n c : Nat} {A : Option Addr} {l : List Int} (h : w.ownsRow base 3 1 (.slice A n c) n (ints l)) (hn : n = l.length) : Rd w w.heap.size A l := by
  subst hn; exact Reads.of_own h
theorem raw_len8 (a : List Int) (sg : List (List Int)) (h : vErr a sg = 0) : (raw a sg sg.length).length ≤ 960 := by
  unfold vErr at h
  split at h
  · rename_i h1; exact absurd h h1
  · rename_i h1
    split at h
    · cases h
    · rename_i h2
      have h3 : lineErr a = 0 := Decidable.not_not.1 h1
      have := (raw_len a sg (lineErr_le h3) (fun l hl => lineErr_le (linesErr_all h l hl)) sg.length (Nat.le_refl _)).1
      omega
theorem strs_sg (a b : List Int) : ∀ x ∈ strs a b, x.2.2.length ≤ a.length + b.length := by
  have h := stAt_bd a b _ (Nat.le_refl _)
  have h2 := pairs_len a b
  rw [strs_eq]
  exact fun x hx => by have := h.item x hx; omega
theorem raw_sg (a : List Int) (sg : List (List Int)) (ha : a.length ≤ 60) (hs : ∀ l ∈ sg, l.length ≤ 60) : ∀ k, k ≤ sg.length → ∀ t ∈ raw a sg k, t.2.2.length ≤ 120
  | 0, _, t, ht => by cases ht
  | k + 1, hk, t, ht => by
    rw [raw, List.mem_append] at ht
    rcases ht with ht | ht
    · exact raw_sg a sg ha hs k (by omega) t ht
    · obtain ⟨x, hx, rfl⟩ := List.mem_map.1 ht
      have e : sg.getD k [] = sg[k] := by simp [List.getD, List.getElem?_eq_getElem (show k < sg.length by omega)]
      rw [e] at hx
      have h1 := strs_sg a _ x hx
      have h2 := hs _ (List.getElem_mem (show k < sg.length by omega))
      simp; omega
theorem raw_sg8 (a : List Int) (sg : List (List Int)) (h : vErr a sg = 0) : ∀ t ∈ raw a sg sg.length, t.2.2.length ≤ 120 := by
  unfold vErr at h
  split at h
  · rename_i h1; exact absurd h h1
  · rename_i h1
    split at h
    · cases h
    · have h3 : lineErr a = 0 := Decidable.not_not.1 h1
      exact raw_sg a sg (lineErr_le h3) (fun l hl => lineErr_le (linesErr_all h l hl)) sg.length (Nat.le_refl _)
theorem StabL.mem {L L' : List Va} (h : StabL L L') {t : Va} (ht : t ∈ L') : t ∈ L := by
  have h1 : t ∈ L'.filter (fun x => decide (x.1 = t.1)) := List.mem_filter.2 ⟨ht, by simp⟩
  rw [h.2.1] at h1
  exact (List.mem_filter.1 h1).1
set_option maxRecDepth 100000 in
set_option maxHeartbeats 2000000 in
theorem varies_any (a : List Int) (ls : List Ln) (Aa Ao : Option Addr) (ca co : Nat) (w : World) (ra : Rd w w.heap.size Aa a) (ro : Lns w w.heap.size Ao ls) :
    Calls Try.prog 3 #[.slice Aa a.length ca, .slice Ao ls.length co] w fun e w' => e = .returned (.bool true) ∧ Below w.heap.size w w' := by
  have h1 := variants_full a ls Aa Ao ca co w ra ro
  have h2 := fun W (r1 : Rd W W.heap.size Aa a) (r2 : Lns W W.heap.size Ao ls) => ref_variants_any a ls Aa Ao ca co W r1 r2
  have hst := refRaw_stab a (sig ls) ls.length
  have hl := raw_len8 a (sig ls)
  have hsgs := raw_sg8 a (sig ls)
  rw [show (sig ls).length = ls.length by simp [sig]] at hl hsgs
  generalize vErr a (sig ls) = er at h1 h2 hl hsgs
  generalize refRaw a (sig ls) ls.length (a.length + 1) = L2 at h2 hst
  generalize raw a (sig ls) ls.length = L at h1 hst hl hsgs
  have H1 := hid h1; have H2 := hid h2; have Hst := hid hst; have Ra := hid ra; have Ro := hid ro; have Hl := hid hl; have Hsg := hid hsgs
  clear h1 h2 hst ra ro hl hsgs
  go_enter Try.func3, Try.ntmps3
  go_wp2_with fail
  refine H1.out.mono ?_
  rintro e w1 ⟨v1, es1, rfl, hS1, h1a, h1b, hb1⟩
  have HS1 := hid hS1; have Hb1 := hid hb1; have H1a := hid h1a; have H1b := hid h1b; clear hS1 hb1 h1a h1b
  obtain ⟨A1, c1, rfl⟩ := own_slice HS1.out.own
  go_wp2_with fail
  refine (H2.out w1 ((Ra.out.below Hb1.out).more Hb1.out.size) (Lns.more (Ro.out.below Hb1.out) Hb1.out.size)).mono ?_
  rintro e w2 ⟨v2, es2, rfl, hS2, h2a, h2b, hb2⟩
  obtain ⟨A2, c2, rfl⟩ := own_slice hS2.own
  have hdec : es1.map dec = es2.map dec := by
    by_cases h0 : er = 0
    · have e1 := H1a.out h0
      rw [h2a h0]
      exact stab_unique _ _ Hst.out.2.2 e1.2.2 fun x => (e1.2.1 x).trans (Hst.out.2.1 x).symm
    · rw [(H1b.out h0).2, (h2b h0).2]
  have hlen : es1.length ≤ 960 := by
    by_cases h0 : er = 0
    · have := (H1a.out h0).1; simp at this; have := Hl.out h0; omega
    · rw [(H1b.out h0).2]; simp
  have hsb : ∀ t ∈ es1, t.2.2.2.length ≤ 120 := fun t ht => by
    by_cases h0 : er = 0
    · exact Hsg.out h0 (dec t) ((H1a.out h0).mem (List.mem_map_of_mem ht))
    · rw [(H1b.out h0).2] at ht; cases ht
  have Hsb := hid hsb
  clear hsb
  have hl2 : es2.length = es1.length := by have := congrArg List.length hdec; simpa using this.symm
  rw [hl2]
  obtain ⟨n, hn⟩ : ∃ n, n = es1.length := ⟨_, rfl⟩
  rw [← hn] at hlen ⊢
  have HB2 := hid (Hb1.out.trans (hb2.mono Hb1.out.size))
  have HS1' := hid (HS1.out.below (hb2.mono (Nat.le_refl _)))
  have HS2 := hid hS2; have Hdec := hid hdec; have Hn := hid hn; have Hl2 := hid hl2
  clear hS2 h2a h2b hb2 hdec hn hl2 H1a H1b HS1 Hb1
  go_wp2_with fail
  go_loopw [9] (fun i wr => ∃ k : Nat, k ≤ n ∧ i = .int .i64 k ∧ ∃ q, wr = w2.drewN q) (fun i _ => n - (intOf i).toNat)
  case atStart => exact ⟨0, by omega, rfl, 0, rfl⟩
  case round =>
    obtain ⟨k, hk, rfl, q, rfl⟩ := hrel
    by_cases hkn : k < n
    · have hk1 : k < es1.length := by rw [← Hn.out]; exact hkn
      have hk2 : k < es2.length := by rw [Hl2.out]; exact hk1
      obtain ⟨g1, d1, hv1, _, hg1, p1, p2, p3⟩ := HS1'.out.at hk1
      obtain ⟨g2, d2, hv2, _, hg2, q1, q2, q3⟩ := HS2.out.at hk2
      injection hv1 with hA1 _ hc1
      injection hv2 with hA2 _ hc2
      subst hA1; subst hA2; subst hc1; subst hc2
      have hsz := Hsb.out _ (List.getElem_mem hk1)
      have hcl1 := (HS1'.out.cl _ (List.getElem_mem hk1)).1
      have hcl2 := (HS2.out.cl _ (List.getElem_mem hk2)).1
      have heq : dec es1[k] = dec es2[k] := by
        have := congrArg (fun x => x[k]?) Hdec.out
        simpa [hk1, hk2] using this
      obtain ⟨⟨x1, x2, x3, x4⟩, hx⟩ : ∃ x, x = es1[k] := ⟨_, rfl⟩
      obtain ⟨⟨y1, y2, y3, y4⟩, hy⟩ : ∃ x, x = es2[k] := ⟨_, rfl⟩
      rw [← hx] at p1 p2 p3 hcl1 heq hsz
      rw [← hy] at q1 q2 q3 hcl2 heq
      simp only [dec, Prod.mk.injEq] at p1 p2 p3 hcl1 heq q1 q2 q3 hcl2 hsz
      obtain ⟨rfl, rfl, rfl⟩ := heq
      obtain ⟨A3, c3, rfl⟩ := own_slice hcl1
      obtain ⟨A4, c4, rfl⟩ := own_slice hcl2
      have hsm := fun q' => same_any x4 x4 A3 A4 c3 c4 (by omega) (w2.drewN q') w2.heap.size (own_rd hcl1 rfl) (own_rd hcl2 rfl)
      simp only [decide_true] at hsm
      have Hsm := hid hsm
      clear hsm hcl1 hcl2 hx hy hsz
      go_wp2_with fail
      go_quiet ((go_at_call 19; go_must (exact (Hsm.out _).mono fun e w' h => ⟨h.1, by obtain ⟨_, n5, hw⟩ := h; exact ⟨_, by rw [hw, World.drewN_drewN, Nat.add_assoc]⟩⟩)))
      go_wp2_with fail
      go_roundw
      case rel => exact ⟨k + 1, by omega, by go_num, _, by first | rfl | exact World.drewN_drewN _ _ _⟩
      case measure => simp [intOf]; omega
    · obtain rfl : k = n := by omega
      go_wp2_with fail
      refine (works_any _).mono ?_
      rintro e w3 ⟨rfl, hb3⟩
      have Hb3 := hid hb3; clear hb3
      go_wp2_with fail
      go_ret
      exact ⟨rfl, (below_drewN HB2.out _).trans (Hb3.out.mono (by have := HB2.out.size; simpa using this))⟩
end Go.Proofs.Ytoljnbbhoeloeaa
