/- WALK: the law CopiesFewest. -/
import Derived.Test.YtoljnbbhoeloeaaHandsW
import Derived.Test.YtoljnbbhoeloeaaFewL
import Derived.Test.YtoljnbbhoeloeaaColor
import Derived.Test.YtoljnbbhoeloeaaWorksW
namespace Go.Proofs.Ytoljnbbhoeloeaa
open Go.RowKit
theorem per_any {ls : Cps} {n d : Int} (h : ∀ j m, j < m → m < ls.length → per ls n d j m = 0) {i k : Nat} (hik : i ≠ k) (hi : i < ls.length) (hk : k < ls.length) : per ls n d i k = 0 := by
  rcases Nat.lt_or_gt_of_ne hik with h1 | h1
  · exact h i k h1 hk
  · have := h k i h1 hi
    unfold per at *
    rw [tlErr_swap]
    exact this
theorem pis_any {ls : Cps} {n d : Int} {i k : Nat} (hik : i ≠ k) : tlIs (cp ls i) (cp ls k) n d = pis ls n d i k := by
  rcases Nat.lt_or_gt_of_ne hik with h1 | h1
  · rw [pis_lt h1]
  · rw [pis_comm, pis_lt h1, tlIs_swap]
theorem hout_0 {ls : Cps} {n d : Int} {r : List Nat} (h : Hout ls n d 0 r) : ls.length ≤ 8 ∧ (∀ j m, j < m → m < ls.length → per ls n d j m = 0) ∧ r = hands (pis ls n d) ls.length := by
  generalize he : (0 : Int) = e at h
  cases h with
  | many _ => omega
  | one _ h2 => exact absurd he.symm h2
  | pair _ _ _ _ _ _ h2 => exact absurd he.symm h2
  | ok h1 _ h2 => exact ⟨h1, h2, rfl⟩
/-- What the loop over the copies has kept up to the pair i, k: the other list keeps those apart that are. -/
def KeptTo (ap : Nat → Nat → Bool) (N : Nat) (ol : List Nat) (i k : Nat) : Prop := (∀ j m, j < i → m < N → j ≠ m → ap j m = true → ol.getD j 0 ≠ ol.getD m 0) ∧ ∀ m, m < k → i ≠ m → ap i m = true → ol.getD i 0 ≠ ol.getD m 0
def AloneTo (ap : Nat → Nat → Bool) (i k : Nat) : Prop := ∀ m, m < k → i ≠ m → ap i m = false
/-- What the inner loop keeps of the two marks. -/
def LoopK (ap : Nat → Nat → Bool) (N : Nat) (ol : List Nat) (i k : Nat) (kv av : Value) : Prop := ∃ kb ab : Bool, kv = .bool kb ∧ av = .bool ab ∧ (kb = true → KeptTo ap N ol i k) ∧ (ab = true → AloneTo ap i k)
def LoopI (ap : Nat → Nat → Bool) (N : Nat) (ol : List Nat) (i : Nat) (kv : Value) : Prop := ∃ kb : Bool, kv = .bool kb ∧ (kb = true → KeptTo ap N ol i 0)
theorem few_lt {ap : Nat → Nat → Bool} {N i : Nat} (hi : i < N) : (hands ap N).getD i 0 < N := by
  obtain ⟨S, h1, h2, _⟩ := hands_get (ap := ap) (N := N)
  have := (few_keeps h2).1 i hi
  simp only [] at this
  omega
theorem kept_no {ap : Nat → Nat → Bool} {N i k : Nat} {ol : List Nat} (h : KeptTo ap N ol i k) (h2 : i ≠ k → ap i k = true → ol.getD i 0 ≠ ol.getD k 0) : KeptTo ap N ol i (k + 1) :=
  ⟨h.1, fun m h3 h4 h5 => by
    by_cases e : m = k
    · subst e; exact h2 h4 h5
    · exact h.2 m (by omega) h4 h5⟩
theorem kept_row {ap : Nat → Nat → Bool} {N i : Nat} {ol : List Nat} (h : KeptTo ap N ol i N) : KeptTo ap N ol (i + 1) 0 :=
  ⟨fun j m h1 h2 h3 h4 => by
    by_cases e : j = i
    · subst e; exact h.2 m h2 h3 h4
    · exact h.1 j m (by omega) h2 h3 h4, fun m h1 => by omega⟩
theorem alone_no {ap : Nat → Nat → Bool} {i k : Nat} (h : AloneTo ap i k) (h2 : i ≠ k → ap i k = false) : AloneTo ap i (k + 1) := fun m h3 h4 => by
  by_cases e : m = k
  · subst e; exact h2 h4
  · exact h m (by omega) h4
def usd (ol : List Nat) (s : Nat) : Bool := decide (s ∈ ol)
/-- Whether one of the first i numbers is s. -/
def usn (ol : List Nat) (s i : Nat) : Nat := if s ∈ ol.take i then 1 else 0
theorem usn_0 {ol : List Nat} {s : Nat} : usn ol s 0 = 0 := by simp [usn]
theorem usn_le {ol : List Nat} {s i : Nat} : usn ol s i ≤ 1 := by unfold usn; split <;> omega
theorem usn_yes {ol : List Nat} {s i : Nat} (h : i < ol.length) (e : ol.getD i 0 = s) : usn ol s (i + 1) = 1 := by
  unfold usn
  rw [List.take_add_one, List.getElem?_eq_getElem h]
  rw [List.getD, List.getElem?_eq_getElem h] at e
  simp only [Option.getD_some] at e
  simp [e]
theorem usn_no {ol : List Nat} {s i : Nat} (h : i < ol.length) (e : ¬ ol.getD i 0 = s) : usn ol s (i + 1) = usn ol s i := by
  unfold usn
  rw [List.take_add_one, List.getElem?_eq_getElem h, Option.toList_some]
  rw [List.getD, List.getElem?_eq_getElem h] at e
  simp only [Option.getD_some] at e
  by_cases hm : s ∈ ol.take i
  · rw [if_pos hm, if_pos (List.mem_append_left _ hm)]
  · rw [if_neg hm, if_neg fun h2 => by
      rcases List.mem_append.1 h2 with h2 | h2
      · exact hm h2
      · exact e (List.mem_singleton.1 h2).symm]
theorem cnt_step {ol : List Nat} {s N : Nat} (h : ol.length = N) : cnt (usd ol) (s + 1) = cnt (usd ol) s + usn ol s N := by
  show cnt (usd ol) s + (if usd ol s then 1 else 0) = _
  unfold usn usd
  rw [← h, List.take_length]
  by_cases e : s ∈ ol <;> simp [e]
theorem cnt_le {u : Nat → Bool} : ∀ s, cnt u s ≤ s
  | 0 => Nat.le_refl _
  | s + 1 => by
    have := cnt_le (u := u) s
    show cnt u s + (if u s then 1 else 0) ≤ s + 1
    split <;> omega
theorem own_num (x : Int) {N : Nat} (h : 0 < N) (h8 : N ≤ 8) : ∃ z : Nat, (wrap64 (x.tmod N + N)).tmod N = z ∧ z < N := by
  have h1 := Int.tmod_lt_of_pos x (b := (N : Int)) (by omega)
  have h2 := Int.lt_tmod_of_pos x (b := (N : Int)) (by omega)
  rw [IntWalk.wrap64_in _ (by omega)]
  have h3 := Int.tmod_nonneg (a := x.tmod N + N) (N : Int) (by omega)
  have h4 := Int.tmod_lt_of_pos (x.tmod N + N) (b := (N : Int)) (by omega)
  exact ⟨((x.tmod N + N).tmod N).toNat, by omega, by omega⟩
theorem own_num2 (i : Nat) {N : Nat} (h : 0 < N) (h8 : N ≤ 8) : ∃ z : Nat, (wrap64 ((i : Int) % N + N)).tmod N = z ∧ z < N := by
  have h1 := Int.emod_lt_of_pos (i : Int) (b := (N : Int)) (by omega)
  have h2 := Int.emod_nonneg (i : Int) (b := (N : Int)) (by omega)
  rw [IntWalk.wrap64_in _ (by omega)]
  have h3 := Int.tmod_nonneg (a := (i : Int) % N + N) (N : Int) (by omega)
  have h4 := Int.tmod_lt_of_pos ((i : Int) % N + N) (b := (N : Int)) (by omega)
  exact ⟨(((i : Int) % N + N).tmod N).toNat, by omega, by omega⟩
set_option maxRecDepth 100000 in
set_option maxHeartbeats 4000000 in
theorem fewest_law (ls : List TLn) (n d : Int) (A : Option Addr) (c : Nat) (os : List Int) (Ao : Option Addr) (co : Nat) (w : World) (r : Tls w w.heap.size A ls) (ro : Rd w w.heap.size Ao os) :
    Calls Try.prog 13 #[.slice A ls.length c, .agg #[.int .i64 n, .int .i64 d], .slice Ao os.length co] w fun e w' => e = .returned (.bool true) ∧ Below w.heap.size w w' := by
  have H1 := hid fun W (r1 : Tls W W.heap.size A ls) => hands_any ls n d A c W r1
  obtain ⟨N, hN⟩ : ∃ N, N = ls.length := ⟨_, rfl⟩
  obtain ⟨P, hP⟩ : ∃ P, P = os.length := ⟨_, rfl⟩
  rw [← hN] at H1
  rw [← hN, ← hP]
  have hcl : (cps ls).length = N := by rw [cps_len, hN]
  have R := hid r; have RO := hid ro; have HN := hid hN; have HP := hid hP; have HL := hid hcl
  clear r ro hN hP hcl
  go_enter Try.func13, Try.ntmps13
  have fin : Hid (∀ W W', Below w.heap.size w W → Below W.heap.size W W' → Below w.heap.size w W') := fun W W' h h' => h.trans (h'.mono h.size)
  have hbx := (Below.refl w.heap.size w).alloc (Nat.le_refl _) (.cells #[.int .i64 n, .int .i64 d] 40)
  have HBX := hid hbx
  clear hbx
  go_wp2_with fail
  refine (H1.out _ ((R.out.below HBX.out).more HBX.out.size)).mono ?_
  rintro e w1 ⟨v1, er, res, rfl, ho1, ⟨A1, k1, rfl, rd1⟩, hb1⟩
  have hz := hb1.size
  simp at hz
  have c0 : w1.cell? ⟨w.heap.size, 0, none⟩ = some (.int .i64 n) := by rw [(bcell hb1).1 _ _ (by simp)]; simp [go_sem]
  have c1 : w1.cell? ⟨w.heap.size, 1, none⟩ = some (.int .i64 d) := by rw [(bcell hb1).1 _ _ (by simp)]; simp [go_sem]
  have HB1 := hid (fin.out _ _ HBX.out hb1)
  have Rd1 := hid rd1
  have Ho1 := hid ho1
  clear hb1 HBX rd1 ho1
  by_cases hE : er = 0
  · subst hE
    obtain ⟨hN8, hpe, hres⟩ := hout_0 Ho1.out
    rw [HL.out] at hN8 hres
    have hrl : res.length = N := by rw [hres, hands_len]
    have HPE := hid hpe; have HRES := hid hres; have HRL := hid hrl
    clear hpe hres hrl
    rw [HRL.out]
    have h8 : decide ((8 : Int) < N) = false := by simp; omega
    go_wp2_with fail
    go_loopw [9, 10] (fun v iv wr => ∃ (i : Nat) (ol : List Nat), i ≤ N ∧ iv = .int .i64 i ∧ Hid (ol.length = i) ∧ Hid (∀ x ∈ ol, x < N) ∧ Hid (wr.ownsRow w1.heap.size 3 1 v ol.length (ints (nz ol))) ∧ Hid (Below w1.heap.size w1 wr)) (fun _ i _ => N - (intOf i).toNat)
    case atStart => exact ⟨0, [], by omega, rfl, rfl, (fun x hx => absurd hx (by simp)), World.ownsRow_nil _ _ _ _, Below.refl _ _⟩
    case round =>
      obtain ⟨i, ol, hi, rfl, hol, hob, hown, hB⟩ := hrel
      by_cases hiN : i < N
      · by_cases hP0 : 0 < P
        · obtain ⟨bo, oo, rfl, hbo, hco⟩ := RO.out.at (by rw [← HP.out]; exact hP0)
          have hmp := Nat.mod_lt i hP0
          have p1 := (hB.out.cell (p := ⟨bo, oo + i % P, none⟩) (by have := HB1.out.size; simp; omega)).trans ((HB1.out.cell (p := ⟨bo, oo + i % P, none⟩) hbo).trans (hco (i % P) (by rw [← HP.out]; exact hmp)))
          generalize nth os (i % P) = x at p1
          obtain ⟨z, hz, hzN⟩ := own_num x (N := N) (by omega) hN8
          clear hco
          go_wp2_with (at_builtin; refine app_one rfl (.tmp 59) (.tmp 70) Try.underlying22 Try.infoInt rfl (by decide) rfl w1.heap.size _ _ _ rfl (hown.out.alloc _) ⟨wr.heap.size, 0, none⟩ (.int .i64 z) rfl (cell_new1 _ _ _) rfl (by rw [hol.out]; omega) (by have := hB.out.size; simp; omega) ?_; intro v4 w4 hown4 hgrow)
          all_goals
            have HB4 := hid (below_app (hB.out.alloc hB.out.size _) (hown.out.alloc _) hgrow (Nat.le_refl _) (by have := hB.out.size; simp; omega))
            have HO4 : Hid (w4.ownsRow w1.heap.size 3 1 v4 (ol ++ [z]).length (ints (nz (ol ++ [z])))) := by rw [nz_snoc, ints_append, List.length_append]; exact hown4
            have HZ : Hid (∀ y ∈ ol ++ [z], y < N) := fun y hy => by
              rcases List.mem_append.1 hy with hy | hy
              · exact hob.out y hy
              · rw [List.mem_singleton.1 hy]; exact hzN
            have HL4 : Hid ((ol ++ [z]).length = i + 1) := by
              have := hol.out
              simp [Hid, this]
            go_roundw
            case rel => exact ⟨i + 1, ol ++ [z], by omega, by go_num, HL4.out, HZ.out, HO4.out, HB4.out⟩
            case measure => simp [intOf]; omega
        · obtain rfl : P = 0 := by omega
          obtain ⟨z, hz, hzN⟩ := own_num2 i (N := N) (by omega) hN8
          go_wp2_with (at_builtin; refine app_one rfl (.tmp 59) (.tmp 70) Try.underlying22 Try.infoInt rfl (by decide) rfl w1.heap.size _ _ _ rfl (hown.out.alloc _) ⟨wr.heap.size, 0, none⟩ (.int .i64 z) rfl (cell_new1 _ _ _) rfl (by rw [hol.out]; omega) (by have := hB.out.size; simp; omega) ?_; intro v4 w4 hown4 hgrow)
          all_goals
            have HB4 := hid (below_app (hB.out.alloc hB.out.size _) (hown.out.alloc _) hgrow (Nat.le_refl _) (by have := hB.out.size; simp; omega))
            have HO4 : Hid (w4.ownsRow w1.heap.size 3 1 v4 (ol ++ [z]).length (ints (nz (ol ++ [z])))) := by rw [nz_snoc, ints_append, List.length_append]; exact hown4
            have HZ : Hid (∀ y ∈ ol ++ [z], y < N) := fun y hy => by
              rcases List.mem_append.1 hy with hy | hy
              · exact hob.out y hy
              · rw [List.mem_singleton.1 hy]; exact hzN
            have HL4 : Hid ((ol ++ [z]).length = i + 1) := by
              have := hol.out
              simp [Hid, this]
            go_roundw
            case rel => exact ⟨i + 1, ol ++ [z], by omega, by go_num, HL4.out, HZ.out, HO4.out, HB4.out⟩
            case measure => simp [intOf]; omega
      · obtain rfl : N = i := by omega
        obtain ⟨w2, rfl⟩ : ∃ w2 : World, w2 = wr := ⟨_, rfl⟩
        obtain ⟨Aw, cw, rfl, _, hat⟩ := own_at hown.out
        have HAT := hid hat
        clear hat
        rw [hol.out]
        have hz2 := hB.out.size
        go_wp2_with fail
        go_loopw [12, 13, 14] (fun sv kv iv wr => ∃ i : Nat, i ≤ N ∧ iv = .int .i64 i ∧ sv = .int .i64 (nxt (res.take i)) ∧ Hid (LoopI (pis (cps ls) n d) N ol i kv) ∧ Hid (Below w2.heap.size w2 wr)) (fun _ _ i _ => N - (intOf i).toNat)
        case atStart => exact ⟨0, by omega, rfl, rfl, ⟨true, rfl, (fun _ => ⟨fun j m h => by omega, fun m h => by omega⟩)⟩, Below.refl _ _⟩
        case round =>
          obtain ⟨i, hi, rfl, rfl, ⟨kb, rfl, hK⟩, hB2⟩ := hrel
          have HK := hid hK; clear hK
          by_cases hiN : i < N
          · have hfl := few_le (ap := pis (cps ls) n d) hiN
            rw [← HRES.out] at hfl
            have hnx := nxt_take (l := res) (k := i) (by rw [HRL.out]; exact hiN)
            obtain ⟨b1, o1, rfl, hb1, hc1⟩ := Rd1.out.at (by rw [nz_len, HRL.out]; omega)
            have hgi := hc1 i (by rw [nz_len, HRL.out]; exact hiN)
            unfold nth at hgi
            rw [nz_get (by rw [HRL.out]; exact hiN)] at hgi
            have HC1 := hid hc1
            have p1 := (hB2.out.cell (p := ⟨b1, o1 + i, none⟩) (by simp; omega)).trans ((hB.out.cell (p := ⟨b1, o1 + i, none⟩) hb1).trans hgi)
            have hxb := few_lt (ap := pis (cps ls) n d) hiN
            rw [← HRES.out] at hxb
            obtain ⟨x, hx⟩ : ∃ x, x = res.getD i 0 := ⟨_, rfl⟩
            obtain ⟨y, hy⟩ : ∃ y, y = nxt (res.take i) := ⟨_, rfl⟩
            obtain ⟨z, hz⟩ : ∃ z, z = nxt (res.take (i + 1)) := ⟨_, rfl⟩
            rw [← hx] at hfl p1 hnx hxb
            rw [← hy] at hfl hnx
            rw [← hz] at hnx
            rw [← hy]
            have hdx : decide ((x : Int) < 0) = false := by simp
            have hdy : decide ((y : Int) < x) = false := by simp; omega
            have hdz : decide (y < x) = false := by simp; omega
            have hmx : max (y : Int) ((x : Int) + 1) = z := by omega
            have HX := hid hx; have HY := hid hy; have HZ := hid hz
            clear hx hy hnx hgi hc1 hz
            go_wp2_with fail
            clear hmx hdx hdy hdz
            go_loopw [13, 15, 16] (fun kv av iv wr => ∃ k : Nat, k ≤ N ∧ iv = .int .i64 k ∧ Hid (LoopK (pis (cps ls) n d) N ol i k kv av) ∧ Hid (Below w2.heap.size w2 wr)) (fun _ _ i _ => N - (intOf i).toNat)
            case atStart => exact ⟨0, by omega, rfl, ⟨kb, true, rfl, rfl, HK.out, (fun _ m h => by omega)⟩, hB2.out⟩
            case round =>
              obtain ⟨k, hk, rfl, ⟨kb, ab, rfl, rfl, hK3, hA3⟩, hB3⟩ := hrel
              by_cases hkN : k < N
              · by_cases hik : i = k
                · have HKn := hid (fun h : kb = true => kept_no (k := k) (hK3 h) fun h2 => absurd hik h2)
                  have HAn := hid (fun h : ab = true => alone_no (k := k) (hA3 h) fun h2 => absurd hik h2)
                  clear hK3 hA3
                  subst hik
                  go_wp2_with fail
                  go_roundw
                  case rel => exact ⟨i + 1, by omega, by go_num, ⟨kb, ab, rfl, rfl, HKn.out, HAn.out⟩, hB3.out⟩
                  case measure => simp [intOf]; omega
                · have hi' : i < ls.length := by rw [← HN.out]; exact hiN
                  have hk' : k < ls.length := by rw [← HN.out]; exact hkN
                  obtain ⟨b, o, rfl, hbB, hcells⟩ := R.out.at (by omega)
                  obtain ⟨g, rfl, hgl, hcs⟩ := HAT.out (by rw [hol.out]; omega)
                  have g1 := hcs i (by rw [hol.out]; exact hiN)
                  have g2 := hcs k (by rw [hol.out]; exact hkN)
                  have q1 := (hB.out.cell (p := ⟨b1, o1 + i, none⟩) hb1).trans (HC1.out i (by rw [nz_len, HRL.out]; exact hiN))
                  have q2 := (hB.out.cell (p := ⟨b1, o1 + k, none⟩) hb1).trans (HC1.out k (by rw [nz_len, HRL.out]; exact hkN))
                  unfold nth at q1 q2
                  rw [nz_get (by rw [HRL.out]; exact hiN), ← HX.out] at q1
                  rw [nz_get (by rw [HRL.out]; exact hkN)] at q2
                  have hBW := HB1.out.trans ((hB.out.trans (hB3.out.mono hB.out.size)).mono HB1.out.size)
                  have d1 := (hBW.cell (p := ⟨b, o + i, none⟩) hbB).trans (hcells i hi')
                  have d2 := (hBW.cell (p := ⟨b, o + k, none⟩) hbB).trans (hcells k hk')
                  have hB13 := hB.out.trans (hB3.out.mono hB.out.size)
                  have d3 := (hB13.cell (p := ⟨w.heap.size, 0, none⟩) (by simp; omega)).trans c0
                  have d4 := (hB13.cell (p := ⟨w.heap.size, 1, none⟩) (by simp; omega)).trans c1
                  have HC := hid (fun W (hW : Below wr.heap.size wr W) => apart_at (n := n) (d := d) hi' hk' ((R.out.below hBW).more hBW.size) hW)
                  rw [pis_any hik, per_any HPE.out hik (by rw [HL.out]; exact hiN) (by rw [HL.out]; exact hkN)] at HC
                  have hbw : b < wr.heap.size := Nat.lt_of_lt_of_le hbB hBW.size
                  have hzw : w.heap.size < wr.heap.size := by have := hB13.size; omega
                  generalize ls[i] = ti at d1 HC
                  generalize ls[k] = tk at d2 HC
                  obtain ⟨oi, hoi⟩ : ∃ oi, oi = ol.getD i 0 := ⟨_, rfl⟩
                  obtain ⟨ok, hok⟩ : ∃ ok, ok = ol.getD k 0 := ⟨_, rfl⟩
                  obtain ⟨x2, hx2⟩ : ∃ x2, x2 = res.getD k 0 := ⟨_, rfl⟩
                  rw [← hoi] at g1
                  rw [← hok] at g2
                  rw [← hx2] at q2
                  have HOI := hid hoi; have HOK := hid hok; have HX2 := hid hx2
                  clear hcells hcs hi' hk' hbB hBW hB13 p1 hoi hok hx2
                  have HK3 := hid hK3; have HA3 := hid hA3
                  clear hK3 hA3
                  cases hbv : pis (cps ls) n d i k with
                  | true =>
                    rw [hbv] at HC
                    have hxx : ¬ x = x2 := by
                      rw [HX.out, HX2.out, HRES.out]
                      rcases Nat.lt_or_gt_of_ne hik with h | h
                      · exact fun e => few_apart h hkN (by rw [pis_comm]; exact hbv) e.symm
                      · exact few_apart h hiN hbv
                    have HBV := hid hbv
                    clear hbv
                    go_wp2_with fail
                    go_region_held3 (fun w' => w'.cell? ⟨b, o + i, none⟩ = some (.slice ti.1 ti.2.2.length ti.2.1) ∧ w'.cell? ⟨b, o + k, none⟩ = some (.slice tk.1 tk.2.2.length tk.2.1) ∧ w'.cell? ⟨w.heap.size, 0, none⟩ = some (.int .i64 n) ∧ w'.cell? ⟨w.heap.size, 1, none⟩ = some (.int .i64 d)) (first | exact ⟨d1, d2, d3, d4⟩ | exact ⟨e1, e2, e3, e4⟩)
                      (first | (go_at_call 30; refine (HC.out _ (by first | exact Below.refl _ _ | exact (Below.refl _ _).drew | exact below_drewN (Below.refl _ _) _)).mono ?_; rintro e w3 ⟨rfl, hb3⟩; have e1 := (hb3.cell (p := ⟨b, o + i, none⟩) (by simp; omega)).trans d1; have e2 := (hb3.cell (p := ⟨b, o + k, none⟩) (by simp; omega)).trans d2; have e3 := (hb3.cell (p := ⟨w.heap.size, 0, none⟩) (by simp; omega)).trans d3; have e4 := (hb3.cell (p := ⟨w.heap.size, 1, none⟩) (by simp; omega)).trans d4))
                    clear d1 d2 d3 d4 e1 e2 e3 e4
                    have hb4 : Below wr.heap.size wr w3 := ((Below.refl _ _).drew).trans hb3
                    have HB3 := hid (hB3.out.trans (hb4.mono hB3.out.size))
                    have p1 := (HB3.out.cell (p := ⟨b1, o1 + i, none⟩) (by simp; omega)).trans q1
                    have p2 := (HB3.out.cell (p := ⟨b1, o1 + k, none⟩) (by simp; omega)).trans q2
                    have p3 := (HB3.out.cell (p := ⟨g, i, none⟩) hgl).trans g1
                    have p4 := (HB3.out.cell (p := ⟨g, k, none⟩) hgl).trans g2
                    clear hb3 hb4
                    go_wp2_with fail
                    go_quiet (fail)
                    go_wp2_with fail
                    all_goals
                      cases kb with
                      | true =>
                        by_cases hoo : oi = ok
                        · have HL : Hid (LoopK (pis (cps ls) n d) N ol i (k + 1) (.bool false) (.bool false)) := ⟨false, false, rfl, rfl, (fun h => by cases h), (fun h => by cases h)⟩
                          go_quiet (fail)
                          go_wp2_with fail
                          go_roundw
                          case rel => exact ⟨k + 1, by omega, by go_num, HL.out, below_drewN HB3.out _⟩
                          case measure => simp [intOf]; omega
                        · have HL : Hid (LoopK (pis (cps ls) n d) N ol i (k + 1) (.bool true) (.bool false)) := ⟨true, false, rfl, rfl, (fun h => kept_no (k := k) (HK3.out h) fun _ _ => by rw [← HOI.out, ← HOK.out]; exact hoo), (fun h => by cases h)⟩
                          have hoe : ((oi : Int) == (ok : Int)) = false := by simp; omega
                          go_quiet (fail)
                          go_wp2_with fail
                          go_roundw
                          case rel => exact ⟨k + 1, by omega, by go_num, HL.out, below_drewN HB3.out _⟩
                          case measure => simp [intOf]; omega
                      | false =>
                        have HL : Hid (LoopK (pis (cps ls) n d) N ol i (k + 1) (.bool false) (.bool false)) := ⟨false, false, rfl, rfl, (fun h => by cases h), (fun h => by cases h)⟩
                        go_quiet (fail)
                        go_wp2_with fail
                        go_roundw
                        case rel => exact ⟨k + 1, by omega, by go_num, HL.out, below_drewN HB3.out _⟩
                        case measure => simp [intOf]; omega
                  | false =>
                    rw [hbv] at HC
                    have HBV := hid hbv
                    clear hbv
                    go_wp2_with fail
                    go_region_held3 (fun w' => w'.cell? ⟨b, o + i, none⟩ = some (.slice ti.1 ti.2.2.length ti.2.1) ∧ w'.cell? ⟨b, o + k, none⟩ = some (.slice tk.1 tk.2.2.length tk.2.1) ∧ w'.cell? ⟨w.heap.size, 0, none⟩ = some (.int .i64 n) ∧ w'.cell? ⟨w.heap.size, 1, none⟩ = some (.int .i64 d)) (first | exact ⟨d1, d2, d3, d4⟩ | exact ⟨e1, e2, e3, e4⟩)
                      (first | (go_at_call 30; refine (HC.out _ (by first | exact Below.refl _ _ | exact (Below.refl _ _).drew | exact below_drewN (Below.refl _ _) _)).mono ?_; rintro e w3 ⟨rfl, hb3⟩; have e1 := (hb3.cell (p := ⟨b, o + i, none⟩) (by simp; omega)).trans d1; have e2 := (hb3.cell (p := ⟨b, o + k, none⟩) (by simp; omega)).trans d2; have e3 := (hb3.cell (p := ⟨w.heap.size, 0, none⟩) (by simp; omega)).trans d3; have e4 := (hb3.cell (p := ⟨w.heap.size, 1, none⟩) (by simp; omega)).trans d4))
                    clear d1 d2 d3 d4 e1 e2 e3 e4
                    have hb4 : Below wr.heap.size wr w3 := ((Below.refl _ _).drew).trans hb3
                    have HB3 := hid (hB3.out.trans (hb4.mono hB3.out.size))
                    have p1 := (HB3.out.cell (p := ⟨b1, o1 + i, none⟩) (by simp; omega)).trans q1
                    have p2 := (HB3.out.cell (p := ⟨b1, o1 + k, none⟩) (by simp; omega)).trans q2
                    have p3 := (HB3.out.cell (p := ⟨g, i, none⟩) hgl).trans g1
                    have p4 := (HB3.out.cell (p := ⟨g, k, none⟩) hgl).trans g2
                    clear hb3 hb4
                    go_wp2_with fail
                    go_quiet (fail)
                    have HL : Hid (LoopK (pis (cps ls) n d) N ol i (k + 1) (.bool kb) (.bool ab)) := ⟨kb, ab, rfl, rfl, (fun h : kb = true => kept_no (k := k) (HK3.out h) fun _ h2 => by rw [HBV.out] at h2; cases h2), (fun h : ab = true => alone_no (k := k) (HA3.out h) fun _ => HBV.out)⟩
                    cases ab with
                    | true =>
                      go_wp2_with fail
                      cases kb with
                      | true =>
                        go_quiet (fail)
                        go_wp2_with fail
                        go_roundw
                        case rel => exact ⟨k + 1, by omega, by go_num, HL.out, below_drewN HB3.out _⟩
                        case measure => simp [intOf]; omega
                      | false =>
                        go_quiet (fail)
                        go_wp2_with fail
                        go_roundw
                        case rel => exact ⟨k + 1, by omega, by go_num, HL.out, below_drewN HB3.out _⟩
                        case measure => simp [intOf]; omega
                    | false =>
                      go_wp2_with fail
                      cases kb with
                      | true =>
                        go_quiet (fail)
                        go_wp2_with fail
                        go_roundw
                        case rel => exact ⟨k + 1, by omega, by go_num, HL.out, below_drewN HB3.out _⟩
                        case measure => simp [intOf]; omega
                      | false =>
                        go_quiet (fail)
                        go_wp2_with fail
                        go_roundw
                        case rel => exact ⟨k + 1, by omega, by go_num, HL.out, below_drewN HB3.out _⟩
                        case measure => simp [intOf]; omega
              · obtain rfl : N = k := by omega
                have HLI : Hid (LoopI (pis (cps ls) n d) N ol (i + 1) (.bool kb)) := ⟨kb, rfl, fun h => kept_row (hK3 h)⟩
                have hzr : Value.int .i64 (z : Int) = .int .i64 (nxt (res.take (i + 1)) : Nat) := by rw [← HZ.out]
                have HZR := hid hzr
                clear hzr
                cases ab with
                | true =>
                  have hx0 := few_alone (ap := pis (cps ls) n d) hiN fun m h1 h2 => ⟨hA3 rfl m h1 fun e => h2 e.symm, by rw [pis_comm]; exact hA3 rfl m h1 fun e => h2 e.symm⟩
                  have q1 := (hB3.out.cell (p := ⟨b1, o1 + i, none⟩) (by simp; omega)).trans ((hB.out.cell (p := ⟨b1, o1 + i, none⟩) hb1).trans (HC1.out i (by rw [nz_len, HRL.out]; exact hiN)))
                  unfold nth at q1
                  rw [nz_get (by rw [HRL.out]; exact hiN)] at q1
                  rw [← HRES.out] at hx0
                  rw [hx0] at q1
                  clear hx0 hK3 hA3
                  go_wp2_with fail
                  go_roundw
                  case rel => exact ⟨i + 1, by omega, by go_num, HZR.out, HLI.out, hB3.out⟩
                  case measure => simp [intOf]; omega
                | false =>
                  clear hK3 hA3
                  go_wp2_with fail
                  go_roundw
                  case rel => exact ⟨i + 1, by omega, by go_num, HZR.out, HLI.out, hB3.out⟩
                  case measure => simp [intOf]; omega
          · obtain rfl : N = i := by omega
            have htk : res.take N = res := List.take_of_length_le (by rw [HRL.out]; omega)
            rw [htk]
            obtain ⟨y, hy⟩ : ∃ y, y = nxt res := ⟨_, rfl⟩
            rw [← hy]
            have HY := hid hy
            clear htk hy
            go_wp2_with fail
            go_loopw [19, 20] (fun mv sv wr => ∃ s : Nat, s ≤ N ∧ sv = .int .i64 s ∧ mv = .int .i64 (cnt (usd ol) s) ∧ Hid (Below w2.heap.size w2 wr)) (fun _ i _ => N - (intOf i).toNat)
            case atStart => exact ⟨0, by omega, rfl, rfl, hB2.out⟩
            case round =>
              obtain ⟨s, hs, rfl, rfl, hB4⟩ := hrel
              by_cases hsN : s < N
              · have hcs := cnt_step (s := s) hol.out
                have hcl := cnt_le (u := usd ol) s
                generalize cnt (usd ol) s = a0 at hcs hcl
                go_wp2_with fail
                go_loopw [21, 22] (fun uv iv wr => ∃ i : Nat, i ≤ N ∧ iv = .int .i64 i ∧ uv = .int .i64 (usn ol s i) ∧ Hid (Below w2.heap.size w2 wr)) (fun _ i _ => N - (intOf i).toNat)
                case atStart => exact ⟨0, by omega, rfl, by rw [usn_0]; rfl, hB4.out⟩
                case round =>
                  obtain ⟨i, hi2, rfl, rfl, hB5⟩ := hrel
                  by_cases hiN2 : i < N
                  · obtain ⟨g, rfl, hgl, hcells⟩ := HAT.out (by rw [hol.out]; omega)
                    have g1 := (hB5.out.cell (p := ⟨g, i, none⟩) hgl).trans (hcells i (by rw [hol.out]; exact hiN2))
                    clear hcells
                    have hy1 := usn_yes (ol := ol) (s := s) (i := i) (by rw [hol.out]; exact hiN2)
                    have hy2 := usn_no (ol := ol) (s := s) (i := i) (by rw [hol.out]; exact hiN2)
                    generalize ol.getD i 0 = oi at g1 hy1 hy2
                    by_cases hoi : oi = s
                    · have HU : Hid (Value.int .i64 1 = .int .i64 (usn ol s (i + 1) : Nat)) := by rw [hy1 hoi]; rfl
                      clear hy1 hy2
                      go_wp2_with fail
                      go_roundw
                      case rel => exact ⟨i + 1, by omega, by go_num, HU.out, hB5.out⟩
                      case measure => simp [intOf]; omega
                    · have HU : Hid (Value.int .i64 (usn ol s i : Nat) = .int .i64 (usn ol s (i + 1) : Nat)) := by rw [hy2 hoi]; rfl
                      clear hy1 hy2
                      go_wp2_with fail
                      go_roundw
                      case rel => exact ⟨i + 1, by omega, by go_num, HU.out, hB5.out⟩
                      case measure => simp [intOf]; omega
                  · obtain rfl : N = i := by omega
                    have hul := usn_le (ol := ol) (s := s) (i := N)
                    generalize usn ol s N = u0 at hcs hul
                    have HCS : Hid (Value.int .i64 ((a0 : Int) + u0) = .int .i64 (cnt (usd ol) (s + 1) : Nat)) := by rw [hcs]; rfl
                    clear hcs
                    go_wp2_with fail
                    go_roundw
                    case rel => exact ⟨s + 1, by omega, by go_num, HCS.out, hB5.out⟩
                    case measure => simp [intOf]; omega
              · obtain rfl : N = s := by omega
                cases kb with
                | true =>
                  have hge := few_many (ap := pis (cps ls) n d) (N := N) (M := N) (own := fun k => ol.getD k 0) (u := usd ol) (fun k hk => hob.out _ (by simp [List.getD, List.getElem?_eq_getElem (show k < ol.length by rw [hol.out]; exact hk)])) (fun i k h1 h2 h3 => (HK.out rfl).1 i k h2 (by omega) (by omega) h3) (fun k hk => decide_eq_true (by simp [List.getD, List.getElem?_eq_getElem (show k < ol.length by rw [hol.out]; exact hk)]))
                  rw [← HRES.out, ← HY.out] at hge
                  generalize cnt (usd ol) N = a0 at hge
                  go_wp2_with fail
                  refine (works_any _).mono ?_
                  rintro e w6 ⟨rfl, hb6⟩
                  have Hb6 := hid hb6; clear hb6
                  go_wp2_with fail
                  go_ret
                  exact ⟨rfl, fin.out _ _ (HB1.out.trans ((hB.out.trans (hB4.out.mono hB.out.size)).mono HB1.out.size)) Hb6.out⟩
                | false =>
                  go_wp2_with fail
                  refine (works_any _).mono ?_
                  rintro e w6 ⟨rfl, hb6⟩
                  have Hb6 := hid hb6; clear hb6
                  go_wp2_with fail
                  go_ret
                  exact ⟨rfl, fin.out _ _ (HB1.out.trans ((hB.out.trans (hB4.out.mono hB.out.size)).mono HB1.out.size)) Hb6.out⟩
  · go_wp2_with fail
    refine (works_any _).mono ?_
    rintro e w6 ⟨rfl, hb6⟩
    have Hb6 := hid hb6; clear hb6
    go_wp2_with fail
    go_ret
    exact ⟨rfl, fin.out _ _ HB1.out Hb6.out⟩
end Go.Proofs.Ytoljnbbhoeloeaa
