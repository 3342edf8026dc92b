/- WALK: the reference's Hands. -/
import Derived.Test.YtoljnbbhoeloeaaColor
import Derived.Test.YtoljnbbhoeloeaaHandsX
import Derived.Test.YtoljnbbhoeloeaaHandsW
import Derived.Test.YtoljnbbhoeloeaaRefApart
namespace Go.Proofs.Ytoljnbbhoeloeaa
open Go.RowKit
theorem ref_apart_at {ls : List TLn} {n d : Int} {i k : Nat} (hi : i < ls.length) (hk : k < ls.length) {A : Option Addr} {w W : World} (r : Tls w w.heap.size A ls) (hb : Below w.heap.size w W) :
    Calls Try.prog 31 #[.slice ls[i].1 ls[i].2.2.length ls[i].2.1, .slice ls[k].1 ls[k].2.2.length ls[k].2.1, .agg #[.int .i64 n, .int .i64 d]] W fun e w' =>
      e = .returned (.tuple #[.bool (tlIs (cp (cps ls) i) (cp (cps ls) k) n d), .int .i64 (per (cps ls) n d i k)]) ∧ Below W.heap.size W w' := by
  rw [per, cps_at hi, cps_at hk]
  have r2 := (r.below hb).more hb.size
  exact ref_apart_any _ _ n d _ _ _ _ W (r2.ln _ (List.getElem_mem hi)) (r2.ln _ (List.getElem_mem hk))
theorem Try.infoTwo : (Try.prog.info? 119).map (fun i => (i.zero, i.size, i.bytes)) = some (some (.agg #[.int .i64 0, .int .i64 0]), 2, 16) := by kernel_rfl
/-- The pairs before the pair i, k that are apart. -/
structure PMem (ls : Cps) (n d : Int) (i k : Nat) (pl : List (Nat × Nat)) : Prop where
  lt : ∀ p ∈ pl, p.1 < p.2 ∧ p.2 < ls.length ∧ Pre p.1 p.2 i k ∧ pis ls n d p.1 p.2 = true
  all : ∀ j m, j < m → m < ls.length → Pre j m i k → pis ls n d j m = true → (j, m) ∈ pl
  len : pl.length ≤ 8 * i + k
theorem pm_0 {ls : Cps} {n d : Int} : PMem ls n d 0 0 [] := ⟨(fun p hp => absurd hp (by simp)), (fun j m _ _ h => by unfold Pre at h; omega), by simp⟩
theorem pm_in {ls : Cps} {n d : Int} {i : Nat} {pl : List (Nat × Nat)} (h : PMem ls n d i 0 pl) : PMem ls n d i (i + 1) pl :=
  ⟨fun p hp => by obtain ⟨h1, h2, h3, h4⟩ := h.lt p hp; exact ⟨h1, h2, by unfold Pre at *; omega, h4⟩, fun j m h1 h2 h3 h4 => h.all j m h1 h2 (by unfold Pre at *; omega) h4, by have := h.len; omega⟩
theorem pm_row {ls : Cps} {n d : Int} {i k : Nat} {pl : List (Nat × Nat)} (h : PMem ls n d i k pl) (hk : ls.length = k) (hk8 : k ≤ 8) : PMem ls n d (i + 1) 0 pl :=
  ⟨fun p hp => by obtain ⟨h1, h2, h3, h4⟩ := h.lt p hp; exact ⟨h1, h2, by unfold Pre at *; omega, h4⟩, fun j m h1 h2 h3 h4 => h.all j m h1 h2 (by unfold Pre at *; omega) h4, by have := h.len; omega⟩
theorem pm_no {ls : Cps} {n d : Int} {i k : Nat} {pl : List (Nat × Nat)} (h : PMem ls n d i k pl) (hp : pis ls n d i k = false) : PMem ls n d i (k + 1) pl :=
  ⟨fun p hp => by obtain ⟨h1, h2, h3, h4⟩ := h.lt p hp; exact ⟨h1, h2, by unfold Pre at *; omega, h4⟩, fun j m h1 h2 h3 h4 => by
    by_cases e : j = i ∧ m = k
    · obtain ⟨rfl, rfl⟩ := e
      rw [hp] at h4
      cases h4
    · exact h.all j m h1 h2 (by unfold Pre at *; omega) h4, by have := h.len; omega⟩
theorem pm_yes {ls : Cps} {n d : Int} {i k : Nat} {pl : List (Nat × Nat)} (h : PMem ls n d i k pl) (hik : i < k) (hk : k < ls.length) (hp : pis ls n d i k = true) : PMem ls n d i (k + 1) (pl ++ [(i, k)]) :=
  ⟨fun p hp2 => by
    rcases List.mem_append.1 hp2 with hp2 | hp2
    · obtain ⟨h1, h2, h3, h4⟩ := h.lt p hp2
      exact ⟨h1, h2, by unfold Pre at *; omega, h4⟩
    · obtain rfl := List.mem_singleton.1 hp2
      exact ⟨hik, hk, by unfold Pre; simp, hp⟩, fun j m h1 h2 h3 h4 => by
    by_cases e : j = i ∧ m = k
    · obtain ⟨rfl, rfl⟩ := e
      simp
    · exact List.mem_append_left _ (h.all j m h1 h2 (by unfold Pre at *; omega) h4), by have := h.len; simp; omega⟩
theorem pm_all {ls : Cps} {n d : Int} {i : Nat} {pl : List (Nat × Nat)} (h : PMem ls n d i 0 pl) (hi : ls.length ≤ i) : Prs ls.length (pis ls n d) pl :=
  ⟨fun p hp => by obtain ⟨h1, h2, _⟩ := h.lt p hp; exact ⟨h1, h2⟩, fun a b h1 h2 => by
    constructor
    · intro h3
      rw [pis_comm] at h3
      exact h.all b a h1 h2 (by unfold Pre; omega) h3
    · intro h3
      rw [pis_comm]
      exact (h.lt _ h3).2.2.2⟩
theorem flat_snoc (pl : List (Nat × Nat)) (i k : Nat) : flatP (pz (pl ++ [(i, k)])) = flatP (pz pl) ++ [.int .i64 i, .int .i64 k] := by simp [flatP, pz]
theorem own_rp {w : World} {B : Nat} {e : TypeId} {v : Value} {pl : List (Nat × Nat)} (h : w.ownsRow B e 2 v pl.length (flatP (pz pl))) : ∃ A c, v = .slice A pl.length c ∧ Rp w w.heap.size A (pz pl) := by
  rcases h.2 with ⟨h2, h3⟩ | ⟨g', cap, cur, hv, _⟩
  · obtain rfl : pl = [] := List.eq_nil_of_length_eq_zero h3
    exact ⟨none, 0, h2, rfl, fun h => absurd h (by decide)⟩
  · subst hv
    refine ⟨_, cap, rfl, ?_⟩
    have := Reads.of_own h
    unfold Rp
    rw [pz_len]
    exact this
set_option maxRecDepth 100000 in
set_option maxHeartbeats 8000000 in
theorem ref_hands_any (ls : List TLn) (n d : Int) (A : Option Addr) (c : Nat) (w : World) (r : Tls w w.heap.size A ls) :
    Calls Try.prog 39 #[.slice A ls.length c, .agg #[.int .i64 n, .int .i64 d]] w fun e w' => ∃ v er res, e = .returned (.tuple #[v, .int .i64 er]) ∧ Hout (cps ls) n d er res ∧
      (∃ A' c', v = .slice A' res.length c' ∧ Rd w' w'.heap.size A' (nz res)) ∧ Below w.heap.size w w' := by
  obtain ⟨N, hN⟩ : ∃ N, N = ls.length := ⟨_, rfl⟩
  have hcl : (cps ls).length = N := by rw [cps_len, hN]
  rw [← hN]
  have R := hid r; have HN := hid hN; have HL := hid hcl
  clear r hN hcl
  obtain ⟨w1, hw1⟩ : ∃ w1, w1 = w.alloc (.cells #[.int .i64 n, .int .i64 d] 43) := ⟨_, rfl⟩
  have c0 : w1.cell? ⟨w.heap.size, 0, none⟩ = some (.int .i64 n) := by rw [hw1]; simp [go_sem]
  have c1 : w1.cell? ⟨w.heap.size, 1, none⟩ = some (.int .i64 d) := by rw [hw1]; simp [go_sem]
  have HB1 : Hid (Below w.heap.size w w1) := by rw [hw1]; exact (Below.refl _ _).alloc (Nat.le_refl _) _
  have hz : w1.heap.size = w.heap.size + 1 := by rw [hw1]; simp
  by_cases h8 : 8 < N
  · have hd : decide ((8 : Int) < N) = true := by simp; omega
    go_enter Try.func39, Try.ntmps39
    go_wp2_with fail
    go_ret2
    exact ⟨_, _, _, rfl, Hout.many (by rw [HL.out]; exact h8), ⟨none, 0, rfl, rfl, fun h => absurd h (by decide)⟩, (Below.refl _ _).alloc (Nat.le_refl _) _⟩
  · have hd : decide ((8 : Int) < N) = false := by simp; omega
    by_cases h1 : N = 1
    · have hd1 : ((N : Int) == 1) = true := by simp; omega
      have hi' : 0 < ls.length := by rw [← HN.out]; omega
      have hN0 : 0 < N := by omega
      have H1 := hid h1
      clear h1
      obtain ⟨b, o, rfl, hbB, hcells⟩ := R.out.at hi'
      have HCL := hid hcells
      have d1 := (HB1.out.cell (p := ⟨b, o + 0, none⟩) hbB).trans (hcells 0 hi')
      rw [Nat.add_zero] at d1
      have d3 := c0
      have d4 := c1
      have HC := hid (fun W (hW : Below w1.heap.size w1 W) => ref_apart_at (n := n) (d := d) hi' hi' ((R.out.below HB1.out).more HB1.out.size) hW)
      have hbw : b < w1.heap.size := Nat.lt_of_lt_of_le hbB HB1.out.size
      have hzw : w.heap.size < w1.heap.size := by omega
      obtain ⟨bv, hbv⟩ : ∃ bv, bv = tlIs (cp (cps ls) 0) (cp (cps ls) 0) n d := ⟨_, rfl⟩
      obtain ⟨er, her⟩ : ∃ er, er = per (cps ls) n d 0 0 := ⟨_, rfl⟩
      rw [← hbv, ← her] at HC
      have HER := hid her
      generalize ls[0] = ti at d1 HC
      clear hbv her hcells hi'
      go_enter Try.func39, Try.ntmps39
      go_wp2_with fail
      rw [← hw1]
      clear hw1
      by_cases hE : er = 0
      · subst hE
        go_region_held3 (fun w' => w'.cell? ⟨b, o, none⟩ = some (.slice ti.1 ti.2.2.length ti.2.1) ∧ w'.cell? ⟨w.heap.size, 0, none⟩ = some (.int .i64 n) ∧ w'.cell? ⟨w.heap.size, 1, none⟩ = some (.int .i64 d)) (first | exact ⟨d1, d3, d4⟩ | exact ⟨e1, e3, e4⟩)
          (first | (go_at_call 31; refine (HC.out _ (by first | exact Below.refl _ _ | exact (Below.refl _ _).drew | exact below_drewN (Below.refl _ _) _)).mono ?_; rintro e w3 ⟨rfl, hb3⟩; have e1 := (hb3.cell (p := ⟨b, o, none⟩) (by simp; omega)).trans d1; have e3 := (hb3.cell (p := ⟨w.heap.size, 0, none⟩) (by simp; omega)).trans d3; have e4 := (hb3.cell (p := ⟨w.heap.size, 1, none⟩) (by simp; omega)).trans d4))
        clear d1 d3 d4 e1 e3 e4
        have HJ : Hid (Below w1.heap.size w1 w3) := ((Below.refl w1.heap.size w1).drew).trans hb3
        have HF1 : Hid (N = 1 → per (cps ls) n d 0 0 = 0) := fun _ => HER.out.symm
        clear hb3
        go_wp2_with fail
        go_loopw [8, 9] (fun v i wr => ∃ (p : Nat) (pl : List (Nat × Nat)), p ≤ N ∧ i = .int .i64 p ∧ Hid (Okp (cps ls) n d p 0) ∧ Hid (PMem (cps ls) n d p 0 pl) ∧ Hid (wr.ownsRow w1.heap.size 119 2 v pl.length (flatP (pz pl))) ∧ Hid (Below w1.heap.size w1 wr)) (fun _ i _ => N - (intOf i).toNat)
        case atStart => exact ⟨0, [], by omega, rfl, okp_0, pm_0, World.ownsRow_nil _ _ _ _, HJ.out⟩
        case round =>
          obtain ⟨i, pl, hi, rfl, hO, hT, hown, hB⟩ := hrel
          obtain ⟨wo, rfl⟩ : ∃ wo : World, wo = wr := ⟨_, rfl⟩
          by_cases hiN : i < N
          · go_wp2_with fail
            go_loopw [8, 10] (fun v kv wr => ∃ (k : Nat) (pl : List (Nat × Nat)), i < k ∧ k ≤ N ∧ kv = .int .i64 k ∧ Hid (Okp (cps ls) n d i k) ∧ Hid (PMem (cps ls) n d i k pl) ∧ Hid (wr.ownsRow w1.heap.size 119 2 v pl.length (flatP (pz pl))) ∧ Hid (Below w1.heap.size w1 wr)) (fun _ i _ => N - (intOf i).toNat)
            case atStart => exact ⟨i + 1, pl, by omega, by omega, by go_num, okp_in hO.out, pm_in hT.out, hown.out, hB.out⟩
            case round =>
              obtain ⟨k, pl, hik, hk, rfl, hO2, hT2, hown2, hB2⟩ := hrel
              by_cases hkN : k < N
              · have hi' : i < ls.length := by rw [← HN.out]; exact hiN
                have hk' : k < ls.length := by rw [← HN.out]; exact hkN
                have hcells := HCL.out
                have hBW := HB1.out.trans (hB2.out.mono (show w.heap.size ≤ w1.heap.size by omega))
                have d1 := (hBW.cell (p := ⟨b, o + i, none⟩) hbB).trans (hcells i hi')
                have d2 := (hBW.cell (p := ⟨b, o + k, none⟩) hbB).trans (hcells k hk')
                have d3 := (hB2.out.cell (p := ⟨w.heap.size, 0, none⟩) (by simp; omega)).trans c0
                have d4 := (hB2.out.cell (p := ⟨w.heap.size, 1, none⟩) (by simp; omega)).trans c1
                have HC := hid (fun W (hW : Below wr.heap.size wr W) => ref_apart_at (n := n) (d := d) hi' hk' ((R.out.below hBW).more hBW.size) hW)
                have hbw : b < wr.heap.size := Nat.lt_of_lt_of_le hbB hBW.size
                have hzw : w.heap.size < wr.heap.size := by have := hB2.out.size; omega
                have hpis := pis_lt (ls := cps ls) (n := n) (d := d) hik
                have HL8 := hid (show pl.length ≤ 10000000000 from by have := hT2.out.len; omega)
                obtain ⟨bv, hbv⟩ : ∃ bv, bv = tlIs (cp (cps ls) i) (cp (cps ls) k) n d := ⟨_, rfl⟩
                obtain ⟨er, her⟩ : ∃ er, er = per (cps ls) n d i k := ⟨_, rfl⟩
                rw [← hbv, ← her] at HC
                rw [← hbv] at hpis
                have HBV := hid hpis; have HER := hid her; have HBW := hid hBW
                generalize ls[i] = ti at d1 HC
                generalize ls[k] = tk at d2 HC
                clear hbv her hBW hcells hi' hk' hpis
                by_cases hE : er = 0
                · subst hE
                  go_wp2_with fail
                  go_region_held3 (fun w' => w'.cell? ⟨b, o + i, none⟩ = some (.slice ti.1 ti.2.2.length ti.2.1) ∧ w'.cell? ⟨b, o + k, none⟩ = some (.slice tk.1 tk.2.2.length tk.2.1) ∧ w'.cell? ⟨w.heap.size, 0, none⟩ = some (.int .i64 n) ∧ w'.cell? ⟨w.heap.size, 1, none⟩ = some (.int .i64 d)) (first | exact ⟨d1, d2, d3, d4⟩ | exact ⟨e1, e2, e3, e4⟩)
                    (first | (go_at_call 31; refine (HC.out _ (by first | exact Below.refl _ _ | exact (Below.refl _ _).drew | exact below_drewN (Below.refl _ _) _)).mono ?_; rintro e w3 ⟨rfl, hb3⟩; have e1 := (hb3.cell (p := ⟨b, o + i, none⟩) (by simp; omega)).trans d1; have e2 := (hb3.cell (p := ⟨b, o + k, none⟩) (by simp; omega)).trans d2; have e3 := (hb3.cell (p := ⟨w.heap.size, 0, none⟩) (by simp; omega)).trans d3; have e4 := (hb3.cell (p := ⟨w.heap.size, 1, none⟩) (by simp; omega)).trans d4))
                  clear d1 d2 d3 d4 e1 e2 e3 e4
                  have hb4 : Below wr.heap.size wr w3 := ((Below.refl _ _).drew).trans hb3
                  have hown3 := own_keep hown2.out hb4
                  have HB3 := hid (hB2.out.trans (hb4.mono hB2.out.size))
                  clear hb3 hb4
                  cases bv with
                  | true =>
                    have HT4 := hid (pm_yes hT2.out hik (by rw [HL.out]; exact hkN) HBV.out)
                    go_wp2_with (at_builtin; refine app_elem rfl (.tmp 66) (.tmp 70) Try.underlying118 Try.infoTwo rfl (by decide) (by decide) rfl w1.heap.size _ _ _ rfl (hown3.alloc _) ⟨w3.heap.size, 0, none⟩ [.int .i64 i, .int .i64 k] rfl rfl (cell_news _ _ _) (by simp [Value.oneCell']) HL8.out (by have := HB3.out.size; simp; omega) ?_; intro v4 w4 hown4 hgrow)
                    all_goals
                      have HB4 := hid (below_app (HB3.out.alloc HB3.out.size _) (hown3.alloc _) hgrow (Nat.le_refl _) (by have := HB3.out.size; simp; omega))
                      have HO4 : Hid (w4.ownsRow w1.heap.size 119 2 v4 (pl ++ [(i, k)]).length (flatP (pz (pl ++ [(i, k)])))) := by rw [flat_snoc, List.length_append]; exact hown4
                      clear hown3 hown4 hgrow
                      go_roundw
                      case rel => exact ⟨k + 1, pl ++ [(i, k)], by omega, by omega, by go_num, okp_step hO2.out HER.out.symm, HT4.out, HO4.out, HB4.out⟩
                      case measure => simp [intOf]; omega
                  | false =>
                    have HT4 := hid (pm_no hT2.out HBV.out)
                    have HO4 := hid hown3
                    clear hown3
                    go_wp2_with fail
                    all_goals
                      go_roundw
                      case rel => exact ⟨k + 1, pl, by omega, by omega, by go_num, okp_step hO2.out HER.out.symm, HT4.out, HO4.out, HB3.out⟩
                      case measure => simp [intOf]; omega
                · go_wp2_with fail
                  go_region_held3 (fun w' => w'.cell? ⟨b, o + i, none⟩ = some (.slice ti.1 ti.2.2.length ti.2.1) ∧ w'.cell? ⟨b, o + k, none⟩ = some (.slice tk.1 tk.2.2.length tk.2.1) ∧ w'.cell? ⟨w.heap.size, 0, none⟩ = some (.int .i64 n) ∧ w'.cell? ⟨w.heap.size, 1, none⟩ = some (.int .i64 d)) (first | exact ⟨d1, d2, d3, d4⟩ | exact ⟨e1, e2, e3, e4⟩)
                    (first | (go_at_call 31; refine (HC.out _ (by first | exact Below.refl _ _ | exact (Below.refl _ _).drew | exact below_drewN (Below.refl _ _) _)).mono ?_; rintro e w3 ⟨rfl, hb3⟩; have e1 := (hb3.cell (p := ⟨b, o + i, none⟩) (by simp; omega)).trans d1; have e2 := (hb3.cell (p := ⟨b, o + k, none⟩) (by simp; omega)).trans d2; have e3 := (hb3.cell (p := ⟨w.heap.size, 0, none⟩) (by simp; omega)).trans d3; have e4 := (hb3.cell (p := ⟨w.heap.size, 1, none⟩) (by simp; omega)).trans d4))
                  clear d1 d2 d3 d4 e1 e2 e3 e4
                  have HB3 := hid (HBW.out.trans ((((Below.refl _ _).drew).trans hb3).mono HBW.out.size))
                  go_wp2_with fail
                  all_goals
                    go_ret2
                    exact ⟨_, _, _, rfl, by rw [HER.out]; exact Hout.pair i k (by rw [HL.out]; omega) hik (by rw [HL.out]; omega) hO2.out (by rw [← HER.out]; exact hE), ⟨none, 0, rfl, rfl, fun h => absurd h (by decide)⟩, HB3.out⟩
              · obtain rfl : N = k := by omega
                go_wp2_with fail
                all_goals
                  go_roundw
                  case rel => exact ⟨i + 1, pl, by omega, by go_num, okp_row hO2.out (by rw [HL.out]; omega), pm_row hT2.out HL.out (by omega), hown2.out, hB2.out⟩
                  case measure => simp [intOf]; omega
          · obtain rfl : N = i := by omega
            have HP := hid (okp_all hO.out (by rw [HL.out]; omega))
            have hpr := pm_all hT.out (by rw [HL.out]; omega)
            rw [HL.out] at hpr
            have HPR := hid hpr
            have HL8 := hid (show pl.length ≤ 1000 from by have := hT.out.len; omega)
            obtain ⟨Ap, cap, rfl, hrp⟩ := own_rp hown.out
            have HRP := hid hrp
            clear hpr hrp
            go_wp2_with fail
            go_loopw [13] (fun v wr => ∃ S : Nat, S ≤ N ∧ v = .int .i64 S ∧ Hid (∀ U, U < S → dfs (pis (cps ls) n d) U N [] = none) ∧ Hid (Below wo.heap.size wo wr)) (fun v _ => N + 1 - (intOf v).toNat)
            case atStart => exact ⟨0, by omega, rfl, fun U hU => by omega, Below.refl _ _⟩
            case round =>
              obtain ⟨S, hS, rfl, hU, hB2⟩ := hrel
              have hsn : ((S : Int) ≤ N) := by omega
              have HA : Hid (∀ W, Below wo.heap.size wo W → _) := fun W hW => color_any N S (pis (cps ls) n d) pl HPR.out (by omega) (by omega) HL8.out Ap cap N [] (.slice none 0 0) W (by simp) (by simp [nxt]) (World.ownsRow_nil _ _ _ _) ((HRP.out.below hW).more hW.size)
              have HBf := hid (HB1.out.trans ((hB.out.trans (hB2.out.mono hB.out.size)).mono HB1.out.size))
              cases hdd : dfs (pis (cps ls) n d) S N [] with
              | some rs =>
                rw [hdd] at HA
                have HR := hid (hands_eq hS hU.out hdd)
                have hrl := dfs_len _ _ _ hdd
                rw [List.length_nil, Nat.zero_add] at hrl
                have hrN : ((rs.length : Int) == N) = true := by simp; omega
                clear hdd hrl
                go_wp2_with (first | (go_at_call 72; refine (HA.out _ hB2.out).mono ?_; rintro e w3 ⟨v3, rfl, hown3, hb3⟩; obtain ⟨A3, c3, rfl, hr3⟩ := own_rd (l := rs) hown3))
                all_goals
                  go_ret2
                  exact ⟨_, _, _, rfl, by have := Hout.ok (ls := cps ls) (n := n) (d := d) (by rw [HL.out]; omega) (by rw [HL.out]; exact HF1.out) HP.out; rw [HL.out, HR.out] at this; exact this, ⟨A3, c3, rfl, hr3⟩, HBf.out.trans (hb3.mono HBf.out.size)⟩
              | none =>
                rw [hdd] at HA
                have hS2 := hands_full hdd
                have hn0 : ((0 : Int) == N) = false := by simp; omega
                have HU2 : Hid (∀ U, U < S + 1 → dfs (pis (cps ls) n d) U N [] = none) := fun U hU3 => by
                  rcases Nat.lt_or_ge U S with h | h
                  · exact hU.out U h
                  · obtain rfl : U = S := by omega
                    exact hdd
                clear hdd
                go_wp2_with (first | (go_at_call 72; refine (HA.out _ hB2.out).mono ?_; rintro e w3 ⟨v3, rfl, hown3, hb3⟩; obtain ⟨A3, c3, rfl, hr3⟩ := own_rd (l := []) hown3))
                all_goals
                  have HB5 := hid (hB2.out.trans (hb3.mono hB2.out.size))
                  go_roundw
                  case rel => exact ⟨S + 1, by omega, by go_num, HU2.out, HB5.out⟩
                  case measure => simp [intOf]; omega
      · go_region_held3 (fun w' => w'.cell? ⟨b, o, none⟩ = some (.slice ti.1 ti.2.2.length ti.2.1) ∧ w'.cell? ⟨w.heap.size, 0, none⟩ = some (.int .i64 n) ∧ w'.cell? ⟨w.heap.size, 1, none⟩ = some (.int .i64 d)) (first | exact ⟨d1, d3, d4⟩ | exact ⟨e1, e3, e4⟩)
          (first | (go_at_call 31; refine (HC.out _ (by first | exact Below.refl _ _ | exact (Below.refl _ _).drew | exact below_drewN (Below.refl _ _) _)).mono ?_; rintro e w3 ⟨rfl, hb3⟩; have e1 := (hb3.cell (p := ⟨b, o, none⟩) (by simp; omega)).trans d1; have e3 := (hb3.cell (p := ⟨w.heap.size, 0, none⟩) (by simp; omega)).trans d3; have e4 := (hb3.cell (p := ⟨w.heap.size, 1, none⟩) (by simp; omega)).trans d4))
        go_wp2_with fail
        go_ret2
        exact ⟨_, _, _, rfl, by rw [HER.out]; exact Hout.one (by rw [HL.out]; exact H1.out) (by rw [← HER.out]; exact hE), ⟨none, 0, rfl, rfl, fun h => absurd h (by decide)⟩, HB1.out.trans ((((Below.refl _ _).drew).trans hb3).mono HB1.out.size)⟩
    · have hd1 : ((N : Int) == 1) = false := by simp; omega
      have HF1 : Hid (N = 1 → per (cps ls) n d 0 0 = 0) := fun h => absurd h h1
      have HJ := hid (Below.refl w1.heap.size w1)
      go_enter Try.func39, Try.ntmps39
      go_wp2_with fail
      rw [← hw1]
      clear hw1
      go_loopw [8, 9] (fun v i wr => ∃ (p : Nat) (pl : List (Nat × Nat)), p ≤ N ∧ i = .int .i64 p ∧ Hid (Okp (cps ls) n d p 0) ∧ Hid (PMem (cps ls) n d p 0 pl) ∧ Hid (wr.ownsRow w1.heap.size 119 2 v pl.length (flatP (pz pl))) ∧ Hid (Below w1.heap.size w1 wr)) (fun _ i _ => N - (intOf i).toNat)
      case atStart => exact ⟨0, [], by omega, rfl, okp_0, pm_0, World.ownsRow_nil _ _ _ _, HJ.out⟩
      case round =>
        obtain ⟨i, pl, hi, rfl, hO, hT, hown, hB⟩ := hrel
        obtain ⟨wo, rfl⟩ : ∃ wo : World, wo = wr := ⟨_, rfl⟩
        by_cases hiN : i < N
        · go_wp2_with fail
          go_loopw [8, 10] (fun v kv wr => ∃ (k : Nat) (pl : List (Nat × Nat)), i < k ∧ k ≤ N ∧ kv = .int .i64 k ∧ Hid (Okp (cps ls) n d i k) ∧ Hid (PMem (cps ls) n d i k pl) ∧ Hid (wr.ownsRow w1.heap.size 119 2 v pl.length (flatP (pz pl))) ∧ Hid (Below w1.heap.size w1 wr)) (fun _ i _ => N - (intOf i).toNat)
          case atStart => exact ⟨i + 1, pl, by omega, by omega, by go_num, okp_in hO.out, pm_in hT.out, hown.out, hB.out⟩
          case round =>
            obtain ⟨k, pl, hik, hk, rfl, hO2, hT2, hown2, hB2⟩ := hrel
            by_cases hkN : k < N
            · have hi' : i < ls.length := by rw [← HN.out]; exact hiN
              have hk' : k < ls.length := by rw [← HN.out]; exact hkN
              obtain ⟨b, o, rfl, hbB, hcells⟩ := R.out.at (by omega)
              have hBW := HB1.out.trans (hB2.out.mono (show w.heap.size ≤ w1.heap.size by omega))
              have d1 := (hBW.cell (p := ⟨b, o + i, none⟩) hbB).trans (hcells i hi')
              have d2 := (hBW.cell (p := ⟨b, o + k, none⟩) hbB).trans (hcells k hk')
              have d3 := (hB2.out.cell (p := ⟨w.heap.size, 0, none⟩) (by simp; omega)).trans c0
              have d4 := (hB2.out.cell (p := ⟨w.heap.size, 1, none⟩) (by simp; omega)).trans c1
              have HC := hid (fun W (hW : Below wr.heap.size wr W) => ref_apart_at (n := n) (d := d) hi' hk' ((R.out.below hBW).more hBW.size) hW)
              have hbw : b < wr.heap.size := Nat.lt_of_lt_of_le hbB hBW.size
              have hzw : w.heap.size < wr.heap.size := by have := hB2.out.size; omega
              have hpis := pis_lt (ls := cps ls) (n := n) (d := d) hik
              have HL8 := hid (show pl.length ≤ 10000000000 from by have := hT2.out.len; omega)
              obtain ⟨bv, hbv⟩ : ∃ bv, bv = tlIs (cp (cps ls) i) (cp (cps ls) k) n d := ⟨_, rfl⟩
              obtain ⟨er, her⟩ : ∃ er, er = per (cps ls) n d i k := ⟨_, rfl⟩
              rw [← hbv, ← her] at HC
              rw [← hbv] at hpis
              have HBV := hid hpis; have HER := hid her; have HBW := hid hBW
              generalize ls[i] = ti at d1 HC
              generalize ls[k] = tk at d2 HC
              clear hbv her hBW hcells hi' hk' hpis
              by_cases hE : er = 0
              · subst hE
                go_wp2_with fail
                go_region_held3 (fun w' => w'.cell? ⟨b, o + i, none⟩ = some (.slice ti.1 ti.2.2.length ti.2.1) ∧ w'.cell? ⟨b, o + k, none⟩ = some (.slice tk.1 tk.2.2.length tk.2.1) ∧ w'.cell? ⟨w.heap.size, 0, none⟩ = some (.int .i64 n) ∧ w'.cell? ⟨w.heap.size, 1, none⟩ = some (.int .i64 d)) (first | exact ⟨d1, d2, d3, d4⟩ | exact ⟨e1, e2, e3, e4⟩)
                  (first | (go_at_call 31; refine (HC.out _ (by first | exact Below.refl _ _ | exact (Below.refl _ _).drew | exact below_drewN (Below.refl _ _) _)).mono ?_; rintro e w3 ⟨rfl, hb3⟩; have e1 := (hb3.cell (p := ⟨b, o + i, none⟩) (by simp; omega)).trans d1; have e2 := (hb3.cell (p := ⟨b, o + k, none⟩) (by simp; omega)).trans d2; have e3 := (hb3.cell (p := ⟨w.heap.size, 0, none⟩) (by simp; omega)).trans d3; have e4 := (hb3.cell (p := ⟨w.heap.size, 1, none⟩) (by simp; omega)).trans d4))
                clear d1 d2 d3 d4 e1 e2 e3 e4
                have hb4 : Below wr.heap.size wr w3 := ((Below.refl _ _).drew).trans hb3
                have hown3 := own_keep hown2.out hb4
                have HB3 := hid (hB2.out.trans (hb4.mono hB2.out.size))
                clear hb3 hb4
                cases bv with
                | true =>
                  have HT4 := hid (pm_yes hT2.out hik (by rw [HL.out]; exact hkN) HBV.out)
                  go_wp2_with (at_builtin; refine app_elem rfl (.tmp 66) (.tmp 70) Try.underlying118 Try.infoTwo rfl (by decide) (by decide) rfl w1.heap.size _ _ _ rfl (hown3.alloc _) ⟨w3.heap.size, 0, none⟩ [.int .i64 i, .int .i64 k] rfl rfl (cell_news _ _ _) (by simp [Value.oneCell']) HL8.out (by have := HB3.out.size; simp; omega) ?_; intro v4 w4 hown4 hgrow)
                  all_goals
                    have HB4 := hid (below_app (HB3.out.alloc HB3.out.size _) (hown3.alloc _) hgrow (Nat.le_refl _) (by have := HB3.out.size; simp; omega))
                    have HO4 : Hid (w4.ownsRow w1.heap.size 119 2 v4 (pl ++ [(i, k)]).length (flatP (pz (pl ++ [(i, k)])))) := by rw [flat_snoc, List.length_append]; exact hown4
                    clear hown3 hown4 hgrow
                    go_roundw
                    case rel => exact ⟨k + 1, pl ++ [(i, k)], by omega, by omega, by go_num, okp_step hO2.out HER.out.symm, HT4.out, HO4.out, HB4.out⟩
                    case measure => simp [intOf]; omega
                | false =>
                  have HT4 := hid (pm_no hT2.out HBV.out)
                  have HO4 := hid hown3
                  clear hown3
                  go_wp2_with fail
                  all_goals
                    go_roundw
                    case rel => exact ⟨k + 1, pl, by omega, by omega, by go_num, okp_step hO2.out HER.out.symm, HT4.out, HO4.out, HB3.out⟩
                    case measure => simp [intOf]; omega
              · go_wp2_with fail
                go_region_held3 (fun w' => w'.cell? ⟨b, o + i, none⟩ = some (.slice ti.1 ti.2.2.length ti.2.1) ∧ w'.cell? ⟨b, o + k, none⟩ = some (.slice tk.1 tk.2.2.length tk.2.1) ∧ w'.cell? ⟨w.heap.size, 0, none⟩ = some (.int .i64 n) ∧ w'.cell? ⟨w.heap.size, 1, none⟩ = some (.int .i64 d)) (first | exact ⟨d1, d2, d3, d4⟩ | exact ⟨e1, e2, e3, e4⟩)
                  (first | (go_at_call 31; refine (HC.out _ (by first | exact Below.refl _ _ | exact (Below.refl _ _).drew | exact below_drewN (Below.refl _ _) _)).mono ?_; rintro e w3 ⟨rfl, hb3⟩; have e1 := (hb3.cell (p := ⟨b, o + i, none⟩) (by simp; omega)).trans d1; have e2 := (hb3.cell (p := ⟨b, o + k, none⟩) (by simp; omega)).trans d2; have e3 := (hb3.cell (p := ⟨w.heap.size, 0, none⟩) (by simp; omega)).trans d3; have e4 := (hb3.cell (p := ⟨w.heap.size, 1, none⟩) (by simp; omega)).trans d4))
                clear d1 d2 d3 d4 e1 e2 e3 e4
                have HB3 := hid (HBW.out.trans ((((Below.refl _ _).drew).trans hb3).mono HBW.out.size))
                go_wp2_with fail
                all_goals
                  go_ret2
                  exact ⟨_, _, _, rfl, by rw [HER.out]; exact Hout.pair i k (by rw [HL.out]; omega) hik (by rw [HL.out]; omega) hO2.out (by rw [← HER.out]; exact hE), ⟨none, 0, rfl, rfl, fun h => absurd h (by decide)⟩, HB3.out⟩
            · obtain rfl : N = k := by omega
              go_wp2_with fail
              all_goals
                go_roundw
                case rel => exact ⟨i + 1, pl, by omega, by go_num, okp_row hO2.out (by rw [HL.out]; omega), pm_row hT2.out HL.out (by omega), hown2.out, hB2.out⟩
                case measure => simp [intOf]; omega
        · obtain rfl : N = i := by omega
          have HP := hid (okp_all hO.out (by rw [HL.out]; omega))
          have hpr := pm_all hT.out (by rw [HL.out]; omega)
          rw [HL.out] at hpr
          have HPR := hid hpr
          have HL8 := hid (show pl.length ≤ 1000 from by have := hT.out.len; omega)
          obtain ⟨Ap, cap, rfl, hrp⟩ := own_rp hown.out
          have HRP := hid hrp
          clear hpr hrp
          go_wp2_with fail
          go_loopw [13] (fun v wr => ∃ S : Nat, S ≤ N ∧ v = .int .i64 S ∧ Hid (∀ U, U < S → dfs (pis (cps ls) n d) U N [] = none) ∧ Hid (Below wo.heap.size wo wr)) (fun v _ => N + 1 - (intOf v).toNat)
          case atStart => exact ⟨0, by omega, rfl, fun U hU => by omega, Below.refl _ _⟩
          case round =>
            obtain ⟨S, hS, rfl, hU, hB2⟩ := hrel
            have hsn : ((S : Int) ≤ N) := by omega
            have HA : Hid (∀ W, Below wo.heap.size wo W → _) := fun W hW => color_any N S (pis (cps ls) n d) pl HPR.out (by omega) (by omega) HL8.out Ap cap N [] (.slice none 0 0) W (by simp) (by simp [nxt]) (World.ownsRow_nil _ _ _ _) ((HRP.out.below hW).more hW.size)
            have HBf := hid (HB1.out.trans ((hB.out.trans (hB2.out.mono hB.out.size)).mono HB1.out.size))
            cases hdd : dfs (pis (cps ls) n d) S N [] with
            | some rs =>
              rw [hdd] at HA
              have HR := hid (hands_eq hS hU.out hdd)
              have hrl := dfs_len _ _ _ hdd
              rw [List.length_nil, Nat.zero_add] at hrl
              have hrN : ((rs.length : Int) == N) = true := by simp; omega
              clear hdd hrl
              go_wp2_with (first | (go_at_call 72; refine (HA.out _ hB2.out).mono ?_; rintro e w3 ⟨v3, rfl, hown3, hb3⟩; obtain ⟨A3, c3, rfl, hr3⟩ := own_rd (l := rs) hown3))
              all_goals
                go_ret2
                exact ⟨_, _, _, rfl, by have := Hout.ok (ls := cps ls) (n := n) (d := d) (by rw [HL.out]; omega) (by rw [HL.out]; exact HF1.out) HP.out; rw [HL.out, HR.out] at this; exact this, ⟨A3, c3, rfl, hr3⟩, HBf.out.trans (hb3.mono HBf.out.size)⟩
            | none =>
              rw [hdd] at HA
              have hS2 := hands_full hdd
              have hn0 : ((0 : Int) == N) = false := by simp; omega
              have HU2 : Hid (∀ U, U < S + 1 → dfs (pis (cps ls) n d) U N [] = none) := fun U hU3 => by
                rcases Nat.lt_or_ge U S with h | h
                · exact hU.out U h
                · obtain rfl : U = S := by omega
                  exact hdd
              clear hdd
              go_wp2_with (first | (go_at_call 72; refine (HA.out _ hB2.out).mono ?_; rintro e w3 ⟨v3, rfl, hown3, hb3⟩; obtain ⟨A3, c3, rfl, hr3⟩ := own_rd (l := []) hown3))
              all_goals
                have HB5 := hid (hB2.out.trans (hb3.mono hB2.out.size))
                go_roundw
                case rel => exact ⟨S + 1, by omega, by go_num, HU2.out, HB5.out⟩
                case measure => simp [intOf]; omega
end Go.Proofs.Ytoljnbbhoeloeaa
