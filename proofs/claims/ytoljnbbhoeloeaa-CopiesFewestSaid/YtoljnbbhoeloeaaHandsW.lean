/- WALK: copies.Hands. -/
import Derived.Test.YtoljnbbhoeloeaaAssignB
import Derived.Test.YtoljnbbhoeloeaaHandsX
import Derived.Test.YtoljnbbhoeloeaaTalRow
import Derived.Test.YtoljnbbhoeloeaaApart
import Derived.Deep.MidRow
namespace Go.Proofs.Ytoljnbbhoeloeaa
open Go.RowKit
/-- The table of copies that are apart, in the memory. -/
structure TMem (f : Nat → Nat → Bool) (b : Nat) (w : World) : Prop where
  c : ∀ x y, x < 8 → y < 8 → w.cell? ⟨b, x * 8 + y, none⟩ = some (.bool (f x y))
  z : ∀ o, w.frozen? ⟨b, o, none⟩ = false
  lt : b < w.heap.size
theorem TMem.below {f : Nat → Nat → Bool} {b : Nat} {w w' : World} (h : TMem f b w) (hb : Below w.heap.size w w') : TMem f b w' :=
  ⟨fun x y hx hy => (hb.cell (p := ⟨b, x * 8 + y, none⟩) h.lt).trans (h.c x y hx hy), fun o => (World.frozen?_of_block (a := ⟨b, o, none⟩) (hb.block b h.lt)).trans (h.z o), Nat.lt_of_lt_of_le h.lt hb.size⟩
theorem frozen_set {w : World} {a p : Addr} {v : Value} : (w.setCell a v).frozen? p = w.frozen? p := by simp [go_sem]
theorem cell_set_self {w : World} {a : Addr} {u v : Value} (h : w.cell? a = some u) : (w.setCell a v).cell? a = some v := by simp [go_sem, h]
theorem TMem.set {f f' : Nat → Nat → Bool} {b i k : Nat} {v : Bool} {w : World} (h : TMem f b w) (hi : i < 8) (hk : k < 8) (hf : ∀ x y, x < 8 → y < 8 → f' x y = if (x = i ∧ y = k) ∨ (x = k ∧ y = i) then v else f x y) :
    TMem f' b ((w.setCell ⟨b, i * 8 + k, none⟩ (.bool v)).setCell ⟨b, k * 8 + i, none⟩ (.bool v)) where
  c := fun x y hx hy => by
    rw [hf x y hx hy]
    have h0 := h.c x y hx hy
    by_cases e2 : x = k ∧ y = i
    · obtain ⟨rfl, rfl⟩ := e2
      rw [if_pos (Or.inr ⟨rfl, rfl⟩)]
      by_cases e3 : y = x
      · subst e3
        exact cell_set_self (cell_set_self h0)
      · exact cell_set_self (cell_set_far h0 (Or.inr (by omega)))
    · by_cases e1 : x = i ∧ y = k
      · obtain ⟨rfl, rfl⟩ := e1
        rw [if_pos (Or.inl ⟨rfl, rfl⟩)]
        exact cell_set_far (cell_set_self h0) (Or.inr (by omega))
      · rw [if_neg (by omega)]
        exact cell_set_far (cell_set_far h0 (Or.inr (by omega))) (Or.inr (by omega))
  z := fun o => by rw [frozen_set, frozen_set]; exact h.z o
  lt := by simpa using h.lt
theorem TMem.congr {f f' : Nat → Nat → Bool} {b : Nat} {w : World} (h : TMem f b w) (hf : ∀ x y, x < 8 → y < 8 → f' x y = f x y) : TMem f' b w :=
  ⟨fun x y hx hy => by rw [hf x y hx hy]; exact h.c x y hx hy, h.z, h.lt⟩
/-- The table as the cells that are loaded. -/
def tcells (f : Nat → Nat → Bool) : List Value := (List.range 64).map fun j => .bool (f (j / 8) (j % 8))
theorem tcells_get {f : Nat → Nat → Bool} {i k : Nat} (hi : i < 8) (hk : k < 8) : (tcells f).toArray[i * 8 + k]? = some (.bool (f i k)) := by
  have h1 : (i * 8 + k) / 8 = i := by omega
  have h2 : (i * 8 + k) % 8 = k := by omega
  simp [tcells, List.getElem?_range (show i * 8 + k < 64 by omega), h1, h2]
theorem TMem.load {f : Nat → Nat → Bool} {b : Nat} {w : World} (h : TMem f b w) {P : Program} : (loadCellsFrom ⟨b, 0, none⟩ 0 64 #[]).run P w = .ok (tcells f).toArray w := by
  have := run_loadCells_list (P := P) w ⟨b, 0, none⟩ (tcells f) (fun j v hj => by
    have hj64 : j < 64 := by
      have := (List.getElem?_eq_some_iff.1 hj).1
      simpa [tcells] using this
    simp [tcells, List.getElem?_range hj64] at hj
    subst hj
    have := h.c (j / 8) (j % 8) (by omega) (by omega)
    rw [show j / 8 * 8 + j % 8 = j by omega] at this
    rw [Addr.add_lit]
    simpa using this)
  simpa [loadCells, tcells] using this
theorem TMem.row {f : Nat → Nat → Bool} {b j : Nat} {w : World} (h : TMem f b w) (hj : j < 64) : w.cell? ⟨b, j, none⟩ = some (.bool (f (j / 8) (j % 8))) := by
  have := h.c (j / 8) (j % 8) (by omega) (by omega)
  rwa [show j / 8 * 8 + j % 8 = j by omega] at this
theorem TMem.range {f : Nat → Nat → Bool} {b : Nat} {w : World} (h : TMem f b w) : w.rangeAt b 0 (tcells f) := fun j v hj => by
  have hj64 : j < 64 := by
    have := (List.getElem?_eq_some_iff.1 hj).1
    simpa [tcells] using this
  simp [tcells, List.getElem?_range hj64] at hj
  subst hj
  rw [Nat.zero_add]
  exact h.row hj64
theorem own_rd {w : World} {B : Nat} {v : Value} {l : List Nat} (h : w.ownsRow B 3 1 v l.length (ints (nz l))) : ∃ A c, v = .slice A l.length c ∧ Rd w w.heap.size A (nz l) := by
  rcases h.2 with ⟨h2, h3⟩ | ⟨g', cap, cur, hv, _⟩
  · obtain rfl : l = [] := List.eq_nil_of_length_eq_zero h3
    exact ⟨none, 0, h2, rfl, fun h => absurd h (by decide)⟩
  · subst hv
    refine ⟨_, cap, rfl, ?_⟩
    have := Reads.of_own h
    unfold Rd
    rw [nz_len]
    exact this
def cps (ls : List TLn) : Cps := ls.map fun t => t.2.2
theorem cps_len (ls : List TLn) : (cps ls).length = ls.length := by simp [cps]
theorem cps_at {ls : List TLn} {i : Nat} (hi : i < ls.length) : cp (cps ls) i = ls[i].2.2 := by simp [cp, cps, List.getD, List.getElem?_eq_getElem hi]
/-- Apart of two of the copies. -/
theorem apart_at {ls : List TLn} {n d : Int} {i k : Nat} (hi : i < ls.length) (hk : k < ls.length) {A : Option Addr} {w W : World} (r : Tls w w.heap.size A ls) (hb : Below w.heap.size w W) :
    Calls Try.prog 30 #[.slice ls[i].1 ls[i].2.2.length ls[i].2.1, .slice ls[k].1 ls[k].2.2.length ls[k].2.1, .agg #[.int .i64 n, .int .i64 d]] W fun e w' =>
      e = .returned (.tuple #[.bool (tlIs (cp (cps ls) i) (cp (cps ls) k) n d), .int .i64 (per (cps ls) n d i k)]) ∧ Below W.heap.size W w' := by
  rw [per, cps_at hi, cps_at hk]
  have r2 := (r.below hb).more hb.size
  exact apart_any _ _ n d _ _ _ _ W (r2.ln _ (List.getElem_mem hi)) (r2.ln _ (List.getElem_mem hk))
set_option maxRecDepth 100000 in
theorem tmem_new (w : World) : TMem (fun _ _ => false) w.heap.size (w.alloc (.cells #[.bool false, .bool false, .bool false, .bool false, .bool false, .bool false, .bool false, .bool false, .bool false, .bool false, .bool false, .bool false, .bool false, .bool false, .bool false, .bool false, .bool false, .bool false, .bool false, .bool false, .bool false, .bool false, .bool false, .bool false, .bool false, .bool false, .bool false, .bool false, .bool false, .bool false, .bool false, .bool false, .bool false, .bool false, .bool false, .bool false, .bool false, .bool false, .bool false, .bool false, .bool false, .bool false, .bool false, .bool false, .bool false, .bool false, .bool false, .bool false, .bool false, .bool false, .bool false, .bool false, .bool false, .bool false, .bool false, .bool false, .bool false, .bool false, .bool false, .bool false, .bool false, .bool false, .bool false, .bool false] 115)) where
  c := fun x y hx hy => by
    have e : (#[.bool false, .bool false, .bool false, .bool false, .bool false, .bool false, .bool false, .bool false, .bool false, .bool false, .bool false, .bool false, .bool false, .bool false, .bool false, .bool false, .bool false, .bool false, .bool false, .bool false, .bool false, .bool false, .bool false, .bool false, .bool false, .bool false, .bool false, .bool false, .bool false, .bool false, .bool false, .bool false, .bool false, .bool false, .bool false, .bool false, .bool false, .bool false, .bool false, .bool false, .bool false, .bool false, .bool false, .bool false, .bool false, .bool false, .bool false, .bool false, .bool false, .bool false, .bool false, .bool false, .bool false, .bool false, .bool false, .bool false, .bool false, .bool false, .bool false, .bool false, .bool false, .bool false, .bool false, .bool false] : Array Value) = Array.replicate 64 (.bool false) := rfl
    rw [e]
    simp [go_sem, Array.getElem?_replicate]
    omega
  z := fun o => by simp [go_sem]
  lt := by simp
set_option maxRecDepth 100000 in
set_option maxHeartbeats 8000000 in
theorem hands_any (ls : List TLn) (n d : Int) (A : Option Addr) (c : Nat) (w : World) (r : Tls w w.heap.size A ls) :
    Calls Try.prog 38 #[.slice A ls.length c, .agg #[.int .i64 n, .int .i64 d]] w fun e w' => ∃ v er res, e = .returned (.tuple #[v, .int .i64 er]) ∧ Hout (cps ls) n d er res ∧
      (∃ A' c', v = .slice A' res.length c' ∧ Rd w' w'.heap.size A' (nz res)) ∧ Below w.heap.size w w' := by
  obtain ⟨N, hN⟩ : ∃ N, N = ls.length := ⟨_, rfl⟩
  have hcl : (cps ls).length = N := by rw [cps_len, hN]
  rw [← hN]
  have R := hid r; have HN := hid hN; have HL := hid hcl
  clear r hN hcl
  obtain ⟨w1, hw1⟩ : ∃ w1, w1 = w.alloc (.cells #[.int .i64 n, .int .i64 d] 40) := ⟨_, rfl⟩
  have c0 : w1.cell? ⟨w.heap.size, 0, none⟩ = some (.int .i64 n) := by rw [hw1]; simp [go_sem]
  have c1 : w1.cell? ⟨w.heap.size, 1, none⟩ = some (.int .i64 d) := by rw [hw1]; simp [go_sem]
  have HB1 : Hid (Below w.heap.size w w1) := by rw [hw1]; exact (Below.refl _ _).alloc (Nat.le_refl _) _
  have hz : w1.heap.size = w.heap.size + 1 := by rw [hw1]; simp
  by_cases h8 : 8 < N
  · have hd : decide ((8 : Int) < N) = true := by simp; omega
    go_enter Try.func38, Try.ntmps38
    go_wp2_with fail
    go_ret2
    exact ⟨_, _, _, rfl, Hout.many (by rw [HL.out]; exact h8), ⟨none, 0, rfl, rfl, fun h => absurd h (by decide)⟩, (Below.refl _ _).alloc (Nat.le_refl _) _⟩
  · have hd : decide ((8 : Int) < N) = false := by simp; omega
    by_cases h1 : N = 1
    · have hd1 : ((N : Int) == 1) = true := by simp; omega
      have hi' : 0 < ls.length := by rw [← HN.out]; omega
      have hN0 : 0 < N := by omega
      have H1 := hid h1
      clear h1
      obtain ⟨b, o, rfl, hbB, hcells⟩ := R.out.at hi'
      have HCL := hid hcells
      have d1 := (HB1.out.cell (p := ⟨b, o + 0, none⟩) hbB).trans (hcells 0 hi')
      rw [Nat.add_zero] at d1
      have d3 := c0
      have d4 := c1
      have HC := hid (fun W (hW : Below w1.heap.size w1 W) => apart_at (n := n) (d := d) hi' hi' ((R.out.below HB1.out).more HB1.out.size) hW)
      have hbw : b < w1.heap.size := Nat.lt_of_lt_of_le hbB HB1.out.size
      have hzw : w.heap.size < w1.heap.size := by omega
      obtain ⟨bv, hbv⟩ : ∃ bv, bv = tlIs (cp (cps ls) 0) (cp (cps ls) 0) n d := ⟨_, rfl⟩
      obtain ⟨er, her⟩ : ∃ er, er = per (cps ls) n d 0 0 := ⟨_, rfl⟩
      rw [← hbv, ← her] at HC
      have HER := hid her
      generalize ls[0] = ti at d1 HC
      clear hbv her hcells hi'
      go_enter Try.func38, Try.ntmps38
      go_wp2_with fail
      rw [← hw1]
      clear hw1
      by_cases hE : er = 0
      · subst hE
        go_region_held3 (fun w' => w'.cell? ⟨b, o, none⟩ = some (.slice ti.1 ti.2.2.length ti.2.1) ∧ w'.cell? ⟨w.heap.size, 0, none⟩ = some (.int .i64 n) ∧ w'.cell? ⟨w.heap.size, 1, none⟩ = some (.int .i64 d)) (first | exact ⟨d1, d3, d4⟩ | exact ⟨e1, e3, e4⟩)
          (first | (go_at_call 30; refine (HC.out _ (by first | exact Below.refl _ _ | exact (Below.refl _ _).drew | exact below_drewN (Below.refl _ _) _)).mono ?_; rintro e w3 ⟨rfl, hb3⟩; have e1 := (hb3.cell (p := ⟨b, o, none⟩) (by simp; omega)).trans d1; have e3 := (hb3.cell (p := ⟨w.heap.size, 0, none⟩) (by simp; omega)).trans d3; have e4 := (hb3.cell (p := ⟨w.heap.size, 1, none⟩) (by simp; omega)).trans d4))
        clear d1 d3 d4 e1 e3 e4
        have HJ : Hid (Below w1.heap.size w1 w3) := ((Below.refl w1.heap.size w1).drew).trans hb3
        have HF1 : Hid (N = 1 → per (cps ls) n d 0 0 = 0) := fun _ => HER.out.symm
        clear hb3
        go_wp2_with fail
        obtain ⟨w2, hw2⟩ : ∃ w2, w2 = w3.alloc (.cells #[.bool false, .bool false, .bool false, .bool false, .bool false, .bool false, .bool false, .bool false, .bool false, .bool false, .bool false, .bool false, .bool false, .bool false, .bool false, .bool false, .bool false, .bool false, .bool false, .bool false, .bool false, .bool false, .bool false, .bool false, .bool false, .bool false, .bool false, .bool false, .bool false, .bool false, .bool false, .bool false, .bool false, .bool false, .bool false, .bool false, .bool false, .bool false, .bool false, .bool false, .bool false, .bool false, .bool false, .bool false, .bool false, .bool false, .bool false, .bool false, .bool false, .bool false, .bool false, .bool false, .bool false, .bool false, .bool false, .bool false, .bool false, .bool false, .bool false, .bool false, .bool false, .bool false, .bool false, .bool false] 115) := ⟨_, rfl⟩
        have HT0 := hid (tmem_new w3)
        obtain ⟨B1, hB1⟩ : ∃ B1, B1 = w3.heap.size := ⟨_, rfl⟩
        have HB2 : Hid (Below w1.heap.size w1 w2) := by rw [hw2]; exact HJ.out.alloc HJ.out.size _
        have hzB : w1.heap.size ≤ B1 := by rw [hB1]; exact HJ.out.size
        rw [← hw2, ← hB1] at HT0
        rw [← hB1]
        clear hB1
        rw [← hw2]
        clear hw2
        go_loopw [38] (fun i wr => ∃ p : Nat, p ≤ N ∧ i = .int .i64 p ∧ Hid (Okp (cps ls) n d p 0) ∧ Hid (TMem (tab (cps ls) n d p 0) B1 wr) ∧ Hid (Below w1.heap.size w1 wr)) (fun i _ => N - (intOf i).toNat)
        case atStart => exact ⟨0, by omega, rfl, okp_0, HT0.out.congr fun x y _ _ => tab_0, HB2.out⟩
        case round =>
          obtain ⟨i, hi, rfl, hO, hT, hB⟩ := hrel
          obtain ⟨wo, rfl⟩ : ∃ wo : World, wo = wr := ⟨_, rfl⟩
          by_cases hiN : i < N
          · go_wp2_with fail
            go_loopw [11] (fun kv wr => ∃ k : Nat, i < k ∧ k ≤ N ∧ kv = .int .i64 k ∧ Hid (Okp (cps ls) n d i k) ∧ Hid (TMem (tab (cps ls) n d i k) B1 wr) ∧ Hid (Below w1.heap.size w1 wr)) (fun i _ => N - (intOf i).toNat)
            case atStart => exact ⟨i + 1, by omega, by omega, by go_num, okp_in hO.out, hT.out.congr (fun x y _ _ => tab_in), hB.out⟩
            case round =>
              obtain ⟨k, hik, hk, rfl, hO2, hT2, hB2⟩ := hrel
              by_cases hkN : k < N
              · have hi' : i < ls.length := by rw [← HN.out]; exact hiN
                have hk' : k < ls.length := by rw [← HN.out]; exact hkN
                have hcells := HCL.out
                have hBW := HB1.out.trans (hB2.out.mono (show w.heap.size ≤ w1.heap.size by omega))
                have d1 := (hBW.cell (p := ⟨b, o + i, none⟩) hbB).trans (hcells i hi')
                have d2 := (hBW.cell (p := ⟨b, o + k, none⟩) hbB).trans (hcells k hk')
                have d3 := (hB2.out.cell (p := ⟨w.heap.size, 0, none⟩) (by simp; omega)).trans c0
                have d4 := (hB2.out.cell (p := ⟨w.heap.size, 1, none⟩) (by simp; omega)).trans c1
                have HC := hid (fun W (hW : Below wr.heap.size wr W) => apart_at (n := n) (d := d) hi' hk' ((R.out.below hBW).more hBW.size) hW)
                have hbw : b < wr.heap.size := Nat.lt_of_lt_of_le hbB hBW.size
                have hzw : w.heap.size < wr.heap.size := by have := hB2.out.size; omega
                obtain ⟨bv, hbv⟩ : ∃ bv, bv = tlIs (cp (cps ls) i) (cp (cps ls) k) n d := ⟨_, rfl⟩
                obtain ⟨er, her⟩ : ∃ er, er = per (cps ls) n d i k := ⟨_, rfl⟩
                rw [← hbv, ← her] at HC
                have HBV := hid hbv; have HER := hid her; have HBW := hid hBW
                generalize ls[i] = ti at d1 HC
                generalize ls[k] = tk at d2 HC
                clear hbv her hBW hcells hi' hk'
                by_cases hE : er = 0
                · subst hE
                  go_wp2_with fail
                  go_region_held3 (fun w' => w'.cell? ⟨b, o + i, none⟩ = some (.slice ti.1 ti.2.2.length ti.2.1) ∧ w'.cell? ⟨b, o + k, none⟩ = some (.slice tk.1 tk.2.2.length tk.2.1) ∧ w'.cell? ⟨w.heap.size, 0, none⟩ = some (.int .i64 n) ∧ w'.cell? ⟨w.heap.size, 1, none⟩ = some (.int .i64 d)) (first | exact ⟨d1, d2, d3, d4⟩ | exact ⟨e1, e2, e3, e4⟩)
                    (first | (go_at_call 30; refine (HC.out _ (by first | exact Below.refl _ _ | exact (Below.refl _ _).drew | exact below_drewN (Below.refl _ _) _)).mono ?_; rintro e w3 ⟨rfl, hb3⟩; have e1 := (hb3.cell (p := ⟨b, o + i, none⟩) (by simp; omega)).trans d1; have e2 := (hb3.cell (p := ⟨b, o + k, none⟩) (by simp; omega)).trans d2; have e3 := (hb3.cell (p := ⟨w.heap.size, 0, none⟩) (by simp; omega)).trans d3; have e4 := (hb3.cell (p := ⟨w.heap.size, 1, none⟩) (by simp; omega)).trans d4))
                  clear d1 d2 d3 d4 e1 e2 e3 e4
                  go_wp2_with fail
                  have hb4 : Below wr.heap.size wr w3 := ((Below.refl _ _).drew).trans hb3
                  have HT3 := hid (hT2.out.below hb4)
                  have HB3 := hid (hB2.out.trans (hb4.mono hB2.out.size))
                  have f1 := HT3.out.c i k (by omega) (by omega)
                  have f2 := HT3.out.c k i (by omega) (by omega)
                  have g1 := HT3.out.z (i * 8 + k)
                  have g2 := HT3.out.z (k * 8 + i)
                  clear hb3 hb4
                  go_region
                  have HT4 := hid ((HT3.out.set (i := i) (k := k) (v := bv) (f' := tab (cps ls) n d i (k + 1)) (by omega) (by omega) (fun x y _ _ => by rw [tab_new hik, ← HBV.out])).below (Below.refl _ _).drew)
                  have HB4 : Hid (Below w1.heap.size w1 ((w3.setCell ⟨B1, i * 8 + k, none⟩ (.bool bv)).setCell ⟨B1, k * 8 + i, none⟩ (.bool bv)).drew) := ((HB3.out.setCell hzB (.bool bv)).setCell hzB (.bool bv)).drew
                  clear f1 f2 g1 g2
                  obtain ⟨w4, hw4⟩ : ∃ w4, w4 = ((w3.setCell ⟨B1, i * 8 + k, none⟩ (.bool bv)).setCell ⟨B1, k * 8 + i, none⟩ (.bool bv)).drew := ⟨_, rfl⟩
                  rw [← hw4] at HT4 HB4 ⊢
                  clear hw4 HT3 HB3
                  go_wp2_with fail
                  go_roundw
                  case rel => exact ⟨k + 1, by omega, by omega, by go_num, okp_step hO2.out HER.out.symm, HT4.out, HB4.out⟩
                  case measure => simp [intOf]; omega
                · go_wp2_with fail
                  go_region_held3 (fun w' => w'.cell? ⟨b, o + i, none⟩ = some (.slice ti.1 ti.2.2.length ti.2.1) ∧ w'.cell? ⟨b, o + k, none⟩ = some (.slice tk.1 tk.2.2.length tk.2.1) ∧ w'.cell? ⟨w.heap.size, 0, none⟩ = some (.int .i64 n) ∧ w'.cell? ⟨w.heap.size, 1, none⟩ = some (.int .i64 d)) (first | exact ⟨d1, d2, d3, d4⟩ | exact ⟨e1, e2, e3, e4⟩)
                    (first | (go_at_call 30; refine (HC.out _ (by first | exact Below.refl _ _ | exact (Below.refl _ _).drew | exact below_drewN (Below.refl _ _) _)).mono ?_; rintro e w3 ⟨rfl, hb3⟩; have e1 := (hb3.cell (p := ⟨b, o + i, none⟩) (by simp; omega)).trans d1; have e2 := (hb3.cell (p := ⟨b, o + k, none⟩) (by simp; omega)).trans d2; have e3 := (hb3.cell (p := ⟨w.heap.size, 0, none⟩) (by simp; omega)).trans d3; have e4 := (hb3.cell (p := ⟨w.heap.size, 1, none⟩) (by simp; omega)).trans d4))
                  clear d1 d2 d3 d4 e1 e2 e3 e4
                  have HB3 := hid (HBW.out.trans ((((Below.refl _ _).drew).trans hb3).mono HBW.out.size))
                  go_wp2_with fail
                  all_goals
                    go_ret2
                    exact ⟨_, _, _, rfl, by rw [HER.out]; exact Hout.pair i k (by rw [HL.out]; omega) hik (by rw [HL.out]; omega) hO2.out (by rw [← HER.out]; exact hE), ⟨none, 0, rfl, rfl, fun h => absurd h (by decide)⟩, HB3.out⟩
              · obtain rfl : N = k := by omega
                go_wp2_with fail
                go_roundw
                case rel => exact ⟨i + 1, by omega, by go_num, okp_row hO2.out (by rw [HL.out]; omega), hT2.out.congr (fun x y _ _ => tab_row (by rw [HL.out]; omega)), hB2.out⟩
                case measure => simp [intOf]; omega
          · obtain rfl : N = i := by omega
            have HP := hid (okp_all hO.out (by rw [HL.out]; omega))
            have HT1 := hid (hT.out.congr (f' := pis (cps ls) n d) fun x y _ _ => (tab_all (by rw [HL.out]; omega)).symm)
            go_wp2_with fail
            go_loopw [14] (fun v wr => ∃ S : Nat, S ≤ N ∧ v = .int .i64 S ∧ Hid (∀ U, U < S → dfs (pis (cps ls) n d) U N [] = none) ∧ Hid (TMem (pis (cps ls) n d) B1 wr) ∧ Hid (Below w1.heap.size w1 wr)) (fun v _ => N + 1 - (intOf v).toNat)
            case atStart => exact ⟨0, by omega, rfl, fun U hU => by omega, HT1.out, hB.out⟩
            case round =>
              obtain ⟨S, hS, rfl, hU, hT2, hB2⟩ := hrel
              have hlc := hT2.out.range
              have hlen : (tcells (pis (cps ls) n d)).length = 64 := by simp [tcells]
              have HA := hid (fun W => assign_any N S (pis (cps ls) n d) (by omega) (by omega) (tcells (pis (cps ls) n d)).toArray (by simp [tcells]) (fun i k hi hk => tcells_get hi hk) W)
              generalize tcells (pis (cps ls) n d) = tc at hlc HA hlen
              have HLC := hid hlc; have HLEN := hid hlen
              clear hlc hlen
              cases hdd : dfs (pis (cps ls) n d) S N [] with
              | some rs =>
                rw [hdd] at HA
                have HR := hid (hands_eq hS hU.out hdd)
                clear hdd
                go_wp2_with (first | (refine wpList_load_mid rfl 115 (.tmp 9) rfl B1 0 rfl tc _ HLC.out Try.underlying115 rfl (by rw [HLEN.out]; kernel_rfl) ?_) | (go_at_call 71; refine (HA.out _).mono ?_; rintro e w3 ⟨v3, rfl, hown3, hb3⟩))
                go_ret2
                obtain ⟨A3, c3, rfl, hr3⟩ := own_rd hown3
                exact ⟨_, _, _, rfl, by have := Hout.ok (ls := cps ls) (n := n) (d := d) (by rw [HL.out]; omega) (by rw [HL.out]; exact HF1.out) HP.out; rw [HL.out, HR.out] at this; exact this, ⟨A3, c3, rfl, hr3⟩, (HB1.out.trans (hB2.out.mono HB1.out.size)).trans (hb3.mono (HB1.out.trans (hB2.out.mono HB1.out.size)).size)⟩
              | none =>
                rw [hdd] at HA
                have hS2 := hands_full hdd
                have HU2 : Hid (∀ U, U < S + 1 → dfs (pis (cps ls) n d) U N [] = none) := fun U hU3 => by
                  rcases Nat.lt_or_ge U S with h | h
                  · exact hU.out U h
                  · obtain rfl : U = S := by omega
                    exact hdd
                clear hdd
                go_wp2_with (first | (refine wpList_load_mid rfl 115 (.tmp 9) rfl B1 0 rfl tc _ HLC.out Try.underlying115 rfl (by rw [HLEN.out]; kernel_rfl) ?_) | (go_at_call 71; refine (HA.out _).mono ?_; rintro e w3 ⟨v3, rfl, hown3, hb3⟩))
                have HT5 := hid (hT2.out.below hb3)
                have HB5 := hid (hB2.out.trans (hb3.mono hB2.out.size))
                go_roundw
                case rel => exact ⟨S + 1, by omega, by go_num, HU2.out, HT5.out, HB5.out⟩
                case measure => simp [intOf]; omega
      · go_region_held3 (fun w' => w'.cell? ⟨b, o, none⟩ = some (.slice ti.1 ti.2.2.length ti.2.1) ∧ w'.cell? ⟨w.heap.size, 0, none⟩ = some (.int .i64 n) ∧ w'.cell? ⟨w.heap.size, 1, none⟩ = some (.int .i64 d)) (first | exact ⟨d1, d3, d4⟩ | exact ⟨e1, e3, e4⟩)
          (first | (go_at_call 30; refine (HC.out _ (by first | exact Below.refl _ _ | exact (Below.refl _ _).drew | exact below_drewN (Below.refl _ _) _)).mono ?_; rintro e w3 ⟨rfl, hb3⟩; have e1 := (hb3.cell (p := ⟨b, o, none⟩) (by simp; omega)).trans d1; have e3 := (hb3.cell (p := ⟨w.heap.size, 0, none⟩) (by simp; omega)).trans d3; have e4 := (hb3.cell (p := ⟨w.heap.size, 1, none⟩) (by simp; omega)).trans d4))
        go_wp2_with fail
        go_ret2
        exact ⟨_, _, _, rfl, by rw [HER.out]; exact Hout.one (by rw [HL.out]; exact H1.out) (by rw [← HER.out]; exact hE), ⟨none, 0, rfl, rfl, fun h => absurd h (by decide)⟩, HB1.out.trans ((((Below.refl _ _).drew).trans hb3).mono HB1.out.size)⟩
    · have hd1 : ((N : Int) == 1) = false := by simp; omega
      have HF1 : Hid (N = 1 → per (cps ls) n d 0 0 = 0) := fun h => absurd h h1
      have HJ := hid (Below.refl w1.heap.size w1)
      go_enter Try.func38, Try.ntmps38
      go_wp2_with fail
      obtain ⟨w2, hw2⟩ : ∃ w2, w2 = w1.alloc (.cells #[.bool false, .bool false, .bool false, .bool false, .bool false, .bool false, .bool false, .bool false, .bool false, .bool false, .bool false, .bool false, .bool false, .bool false, .bool false, .bool false, .bool false, .bool false, .bool false, .bool false, .bool false, .bool false, .bool false, .bool false, .bool false, .bool false, .bool false, .bool false, .bool false, .bool false, .bool false, .bool false, .bool false, .bool false, .bool false, .bool false, .bool false, .bool false, .bool false, .bool false, .bool false, .bool false, .bool false, .bool false, .bool false, .bool false, .bool false, .bool false, .bool false, .bool false, .bool false, .bool false, .bool false, .bool false, .bool false, .bool false, .bool false, .bool false, .bool false, .bool false, .bool false, .bool false, .bool false, .bool false] 115) := ⟨_, rfl⟩
      have HT0 := hid (tmem_new w1)
      obtain ⟨B1, hB1⟩ : ∃ B1, B1 = w1.heap.size := ⟨_, rfl⟩
      have HB2 : Hid (Below w1.heap.size w1 w2) := by rw [hw2]; exact HJ.out.alloc HJ.out.size _
      have hzB : w1.heap.size ≤ B1 := by rw [hB1]; exact HJ.out.size
      rw [← hw2, ← hB1] at HT0
      rw [hz] at hB1
      rw [← hw1, ← hB1]
      clear hw1 hB1
      rw [← hw2]
      clear hw2
      go_loopw [38] (fun i wr => ∃ p : Nat, p ≤ N ∧ i = .int .i64 p ∧ Hid (Okp (cps ls) n d p 0) ∧ Hid (TMem (tab (cps ls) n d p 0) B1 wr) ∧ Hid (Below w1.heap.size w1 wr)) (fun i _ => N - (intOf i).toNat)
      case atStart => exact ⟨0, by omega, rfl, okp_0, HT0.out.congr fun x y _ _ => tab_0, HB2.out⟩
      case round =>
        obtain ⟨i, hi, rfl, hO, hT, hB⟩ := hrel
        obtain ⟨wo, rfl⟩ : ∃ wo : World, wo = wr := ⟨_, rfl⟩
        by_cases hiN : i < N
        · go_wp2_with fail
          go_loopw [11] (fun kv wr => ∃ k : Nat, i < k ∧ k ≤ N ∧ kv = .int .i64 k ∧ Hid (Okp (cps ls) n d i k) ∧ Hid (TMem (tab (cps ls) n d i k) B1 wr) ∧ Hid (Below w1.heap.size w1 wr)) (fun i _ => N - (intOf i).toNat)
          case atStart => exact ⟨i + 1, by omega, by omega, by go_num, okp_in hO.out, hT.out.congr (fun x y _ _ => tab_in), hB.out⟩
          case round =>
            obtain ⟨k, hik, hk, rfl, hO2, hT2, hB2⟩ := hrel
            by_cases hkN : k < N
            · have hi' : i < ls.length := by rw [← HN.out]; exact hiN
              have hk' : k < ls.length := by rw [← HN.out]; exact hkN
              obtain ⟨b, o, rfl, hbB, hcells⟩ := R.out.at (by omega)
              have hBW := HB1.out.trans (hB2.out.mono (show w.heap.size ≤ w1.heap.size by omega))
              have d1 := (hBW.cell (p := ⟨b, o + i, none⟩) hbB).trans (hcells i hi')
              have d2 := (hBW.cell (p := ⟨b, o + k, none⟩) hbB).trans (hcells k hk')
              have d3 := (hB2.out.cell (p := ⟨w.heap.size, 0, none⟩) (by simp; omega)).trans c0
              have d4 := (hB2.out.cell (p := ⟨w.heap.size, 1, none⟩) (by simp; omega)).trans c1
              have HC := hid (fun W (hW : Below wr.heap.size wr W) => apart_at (n := n) (d := d) hi' hk' ((R.out.below hBW).more hBW.size) hW)
              have hbw : b < wr.heap.size := Nat.lt_of_lt_of_le hbB hBW.size
              have hzw : w.heap.size < wr.heap.size := by have := hB2.out.size; omega
              obtain ⟨bv, hbv⟩ : ∃ bv, bv = tlIs (cp (cps ls) i) (cp (cps ls) k) n d := ⟨_, rfl⟩
              obtain ⟨er, her⟩ : ∃ er, er = per (cps ls) n d i k := ⟨_, rfl⟩
              rw [← hbv, ← her] at HC
              have HBV := hid hbv; have HER := hid her; have HBW := hid hBW
              generalize ls[i] = ti at d1 HC
              generalize ls[k] = tk at d2 HC
              clear hbv her hBW hcells hi' hk'
              by_cases hE : er = 0
              · subst hE
                go_wp2_with fail
                go_region_held3 (fun w' => w'.cell? ⟨b, o + i, none⟩ = some (.slice ti.1 ti.2.2.length ti.2.1) ∧ w'.cell? ⟨b, o + k, none⟩ = some (.slice tk.1 tk.2.2.length tk.2.1) ∧ w'.cell? ⟨w.heap.size, 0, none⟩ = some (.int .i64 n) ∧ w'.cell? ⟨w.heap.size, 1, none⟩ = some (.int .i64 d)) (first | exact ⟨d1, d2, d3, d4⟩ | exact ⟨e1, e2, e3, e4⟩)
                  (first | (go_at_call 30; refine (HC.out _ (by first | exact Below.refl _ _ | exact (Below.refl _ _).drew | exact below_drewN (Below.refl _ _) _)).mono ?_; rintro e w3 ⟨rfl, hb3⟩; have e1 := (hb3.cell (p := ⟨b, o + i, none⟩) (by simp; omega)).trans d1; have e2 := (hb3.cell (p := ⟨b, o + k, none⟩) (by simp; omega)).trans d2; have e3 := (hb3.cell (p := ⟨w.heap.size, 0, none⟩) (by simp; omega)).trans d3; have e4 := (hb3.cell (p := ⟨w.heap.size, 1, none⟩) (by simp; omega)).trans d4))
                clear d1 d2 d3 d4 e1 e2 e3 e4
                go_wp2_with fail
                have hb4 : Below wr.heap.size wr w3 := ((Below.refl _ _).drew).trans hb3
                have HT3 := hid (hT2.out.below hb4)
                have HB3 := hid (hB2.out.trans (hb4.mono hB2.out.size))
                have f1 := HT3.out.c i k (by omega) (by omega)
                have f2 := HT3.out.c k i (by omega) (by omega)
                have g1 := HT3.out.z (i * 8 + k)
                have g2 := HT3.out.z (k * 8 + i)
                clear hb3 hb4
                go_region
                have HT4 := hid ((HT3.out.set (i := i) (k := k) (v := bv) (f' := tab (cps ls) n d i (k + 1)) (by omega) (by omega) (fun x y _ _ => by rw [tab_new hik, ← HBV.out])).below (Below.refl _ _).drew)
                have HB4 : Hid (Below w1.heap.size w1 ((w3.setCell ⟨B1, i * 8 + k, none⟩ (.bool bv)).setCell ⟨B1, k * 8 + i, none⟩ (.bool bv)).drew) := ((HB3.out.setCell hzB (.bool bv)).setCell hzB (.bool bv)).drew
                clear f1 f2 g1 g2
                obtain ⟨w4, hw4⟩ : ∃ w4, w4 = ((w3.setCell ⟨B1, i * 8 + k, none⟩ (.bool bv)).setCell ⟨B1, k * 8 + i, none⟩ (.bool bv)).drew := ⟨_, rfl⟩
                rw [← hw4] at HT4 HB4 ⊢
                clear hw4 HT3 HB3
                go_wp2_with fail
                go_roundw
                case rel => exact ⟨k + 1, by omega, by omega, by go_num, okp_step hO2.out HER.out.symm, HT4.out, HB4.out⟩
                case measure => simp [intOf]; omega
              · go_wp2_with fail
                go_region_held3 (fun w' => w'.cell? ⟨b, o + i, none⟩ = some (.slice ti.1 ti.2.2.length ti.2.1) ∧ w'.cell? ⟨b, o + k, none⟩ = some (.slice tk.1 tk.2.2.length tk.2.1) ∧ w'.cell? ⟨w.heap.size, 0, none⟩ = some (.int .i64 n) ∧ w'.cell? ⟨w.heap.size, 1, none⟩ = some (.int .i64 d)) (first | exact ⟨d1, d2, d3, d4⟩ | exact ⟨e1, e2, e3, e4⟩)
                  (first | (go_at_call 30; refine (HC.out _ (by first | exact Below.refl _ _ | exact (Below.refl _ _).drew | exact below_drewN (Below.refl _ _) _)).mono ?_; rintro e w3 ⟨rfl, hb3⟩; have e1 := (hb3.cell (p := ⟨b, o + i, none⟩) (by simp; omega)).trans d1; have e2 := (hb3.cell (p := ⟨b, o + k, none⟩) (by simp; omega)).trans d2; have e3 := (hb3.cell (p := ⟨w.heap.size, 0, none⟩) (by simp; omega)).trans d3; have e4 := (hb3.cell (p := ⟨w.heap.size, 1, none⟩) (by simp; omega)).trans d4))
                clear d1 d2 d3 d4 e1 e2 e3 e4
                have HB3 := hid (HBW.out.trans ((((Below.refl _ _).drew).trans hb3).mono HBW.out.size))
                go_wp2_with fail
                all_goals
                  go_ret2
                  exact ⟨_, _, _, rfl, by rw [HER.out]; exact Hout.pair i k (by rw [HL.out]; omega) hik (by rw [HL.out]; omega) hO2.out (by rw [← HER.out]; exact hE), ⟨none, 0, rfl, rfl, fun h => absurd h (by decide)⟩, HB3.out⟩
            · obtain rfl : N = k := by omega
              go_wp2_with fail
              go_roundw
              case rel => exact ⟨i + 1, by omega, by go_num, okp_row hO2.out (by rw [HL.out]; omega), hT2.out.congr (fun x y _ _ => tab_row (by rw [HL.out]; omega)), hB2.out⟩
              case measure => simp [intOf]; omega
        · obtain rfl : N = i := by omega
          have HP := hid (okp_all hO.out (by rw [HL.out]; omega))
          have HT1 := hid (hT.out.congr (f' := pis (cps ls) n d) fun x y _ _ => (tab_all (by rw [HL.out]; omega)).symm)
          go_wp2_with fail
          go_loopw [14] (fun v wr => ∃ S : Nat, S ≤ N ∧ v = .int .i64 S ∧ Hid (∀ U, U < S → dfs (pis (cps ls) n d) U N [] = none) ∧ Hid (TMem (pis (cps ls) n d) B1 wr) ∧ Hid (Below w1.heap.size w1 wr)) (fun v _ => N + 1 - (intOf v).toNat)
          case atStart => exact ⟨0, by omega, rfl, fun U hU => by omega, HT1.out, hB.out⟩
          case round =>
            obtain ⟨S, hS, rfl, hU, hT2, hB2⟩ := hrel
            have hlc := hT2.out.range
            have hlen : (tcells (pis (cps ls) n d)).length = 64 := by simp [tcells]
            have HA := hid (fun W => assign_any N S (pis (cps ls) n d) (by omega) (by omega) (tcells (pis (cps ls) n d)).toArray (by simp [tcells]) (fun i k hi hk => tcells_get hi hk) W)
            generalize tcells (pis (cps ls) n d) = tc at hlc HA hlen
            have HLC := hid hlc; have HLEN := hid hlen
            clear hlc hlen
            cases hdd : dfs (pis (cps ls) n d) S N [] with
            | some rs =>
              rw [hdd] at HA
              have HR := hid (hands_eq hS hU.out hdd)
              clear hdd
              go_wp2_with (first | (refine wpList_load_mid rfl 115 (.tmp 9) rfl B1 0 rfl tc _ HLC.out Try.underlying115 rfl (by rw [HLEN.out]; kernel_rfl) ?_) | (go_at_call 71; refine (HA.out _).mono ?_; rintro e w3 ⟨v3, rfl, hown3, hb3⟩))
              go_ret2
              obtain ⟨A3, c3, rfl, hr3⟩ := own_rd hown3
              exact ⟨_, _, _, rfl, by have := Hout.ok (ls := cps ls) (n := n) (d := d) (by rw [HL.out]; omega) (by rw [HL.out]; exact HF1.out) HP.out; rw [HL.out, HR.out] at this; exact this, ⟨A3, c3, rfl, hr3⟩, (HB1.out.trans (hB2.out.mono HB1.out.size)).trans (hb3.mono (HB1.out.trans (hB2.out.mono HB1.out.size)).size)⟩
            | none =>
              rw [hdd] at HA
              have hS2 := hands_full hdd
              have HU2 : Hid (∀ U, U < S + 1 → dfs (pis (cps ls) n d) U N [] = none) := fun U hU3 => by
                rcases Nat.lt_or_ge U S with h | h
                · exact hU.out U h
                · obtain rfl : U = S := by omega
                  exact hdd
              clear hdd
              go_wp2_with (first | (refine wpList_load_mid rfl 115 (.tmp 9) rfl B1 0 rfl tc _ HLC.out Try.underlying115 rfl (by rw [HLEN.out]; kernel_rfl) ?_) | (go_at_call 71; refine (HA.out _).mono ?_; rintro e w3 ⟨v3, rfl, hown3, hb3⟩))
              have HT5 := hid (hT2.out.below hb3)
              have HB5 := hid (hB2.out.trans (hb3.mono hB2.out.size))
              go_roundw
              case rel => exact ⟨S + 1, by omega, by go_num, HU2.out, HT5.out, HB5.out⟩
              case measure => simp [intOf]; omega
end Go.Proofs.Ytoljnbbhoeloeaa
