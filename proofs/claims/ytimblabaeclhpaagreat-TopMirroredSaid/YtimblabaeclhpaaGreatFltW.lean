/- WALK: flatten: the nodes of items, in a row that grows. -/
import Derived.Test.YtimblabaeclhpaaGreatParR
import Derived.Test.YtimblabaeclhpaaGreatPar
import Derived.Test.YtimblabaeclhpaaGreatTextL
namespace Go.Proofs.YtimblabaeclhpaaGreat
open Go.RowKit
def clrS (x : Nd) : Nd := { x with sign := 0 }
/-- The nodes of items, but for the signs, which are numbers from 0 to below N. -/
def FlatOf (N d : Int) (ks : List Itm) (l : List Nd) : Prop := l.map clrS = (nodesL d ks).map clrS ∧ ∀ x ∈ l, 0 ≤ x.sign ∧ x.sign < N
theorem FlatOf.len {N d : Int} {ks : List Itm} {l : List Nd} (h : FlatOf N d ks l) : l.length = szL ks := by
  have := congrArg List.length h.1
  rwa [List.length_map, List.length_map, nodesL_len] at this
theorem FlatOf.nil {N d : Int} : FlatOf N d [] [] := ⟨by simp [nodesL], by simp⟩
theorem nodesL_app (d : Int) : ∀ (a b : List Itm), nodesL d (a ++ b) = nodesL d a ++ nodesL d b
  | [], b => by simp [nodesL]
  | x :: a, b => by rw [List.cons_append, nodesL, nodesL, nodesL_app d a b, List.append_assoc]
theorem FlatOf.snoc {N d : Int} {ks kids : List Itm} {nd : Nd} {code : ByteArray} {pos : Nat} {l l2 : List Nd} {s : Int} (h : FlatOf N d ks l) (h2 : FlatOf N (d + 1) kids l2) (hs : 0 ≤ s ∧ s < N) : FlatOf N d (ks ++ [.mk nd code pos kids]) (l ++ { nd with depth := d, sign := s } :: l2) := by
  refine ⟨?_, fun x hx => ?_⟩
  · rw [nodesL_app, List.map_append, List.map_append, h.1, List.map_cons, h2.1]
    simp [nodesL, Itm.nodes, clrS]
  · rcases List.mem_append.1 hx with h3 | h3
    · exact h.2 x h3
    · rcases List.mem_cons.1 h3 with rfl | h3
      · exact hs
      · exact h2.2 x h3
theorem sz_pos : ∀ x : Itm, 1 ≤ x.sz
  | .mk _ _ _ _ => by rw [Itm.sz]; omega
theorem len_szL : ∀ ks : List Itm, ks.length ≤ szL ks
  | [] => Nat.zero_le _
  | x :: ks => by
    rw [szL, List.length_cons]
    have := len_szL ks; have := sz_pos x
    omega
theorem szL_take (ks : List Itm) (i : Nat) : szL (ks.take i) ≤ szL ks := by
  have := szL_app (ks.take i) (ks.drop i)
  rw [List.take_append_drop] at this
  omega
theorem take_k {ks : List Itm} {i : Nat} (h : i < ks.length) : ks.take (i + 1) = ks.take i ++ [ks[i]] := by
  rw [List.take_add_one, List.getElem?_eq_getElem h]
  rfl
/-- The cells of an item of a row. -/
theorem KidR.cellsAt {Q : Nat → Prop} {w : World} {A : Option Addr} {n c : Nat} {vs : List Iv} (h : KidR Q w (.slice A n c) vs) {i : Nat} (hi : i < vs.length) : ∃ g, A = some ⟨g, 0, none⟩ ∧ Q g ∧ g < w.heap.size ∧ w.rangeAt g (i * 11) (ivC vs[i]) := by
  obtain ⟨h1, h2⟩ := h
  obtain ⟨g, cap, hv, hb, hlt⟩ := h1.form (by omega)
  injection hv with e1 e2 e3
  subst e1
  refine ⟨g, rfl, h2 g rfl, hlt, fun j u hj => ?_⟩
  have hj11 : j < 11 := by
    have := (List.getElem?_eq_some_iff.1 hj).1
    unfold ivC at this
    simpa using this
  have := h1.cells (g := g) rfl (i * 11 + j) u (by rw [flatI_at vs i j hi hj11]; exact hj)
  rw [Addr.add_lit] at this
  simpa using this
theorem range_under {n0 : Nat} {w W : World} {g o : Nat} {cs : List Value} (h : w.rangeAt g o cs) (hb : Below n0 w W) (hg : g < n0) : W.rangeAt g o cs := fun j u hj => (hb.cell (p := ⟨g, o + j, none⟩) hg).trans (h j u hj)
theorem ItB.set_depth {W : World} {b : Nat} {v : Iv} {u : Int} (h : ItB W b v) : ItB (W.setCell ⟨b, 1, none⟩ (.int .i64 u)) b { v with nd := { v.nd with depth := u } } := by
  unfold ItB at h ⊢
  simp [World.setCell, h, Array.getElem?_modify]
theorem Tryz.underNodeT : Tryz.prog.underlying 67 = some (Tryz.prog.underlying 67).get! := by kernel_rfl
theorem ItB.ndRange {W : World} {b : Nat} {v : Iv} (h : ItB W b v) : W.rangeAt b 0 v.nd.cells := fun j u hj => by
  have hj8 : j < 8 := by
    have := (List.getElem?_eq_some_iff.1 hj).1
    simpa [Nd.cells] using this
  refine h.range j u ?_
  have e : ivC v = v.nd.cells ++ [.string v.code, .int .i64 v.pos, .slice v.ka v.kn v.kc] := rfl
  rw [e, List.getElem?_append_left (by simpa [Nd.cells] using hj8)]
  exact hj
/-- What flatten does with the items ks. -/
def FlC (N : Int) (n0 : Nat) (ks : List Itm) : Prop := ∀ (vs : List Iv) (l0 : List Nd) (A Ai : Option Addr) (m c ni ci : Nat) (d : Int) (w : World), l0.length = m → w.ownsRow n0 67 8 (.slice A m c) m (flatN l0) → KidR (fun b => b < n0) w (.slice Ai ni ci) vs → ni = ks.length → ItL N (fun b => b < n0) w vs ks → n0 ≤ w.heap.size → m + szL ks ≤ 2000000 → 0 ≤ d → d + szL ks ≤ 2000000 →
  Calls Tryz.prog 16 #[.slice A m c, .slice Ai ni ci, .int .i64 d] w fun e w' => ∃ (A' : Option Addr) (c' : Nat) (l : List Nd), e = .returned (.slice A' (m + szL ks) c') ∧ w'.ownsRow n0 67 8 (.slice A' (m + szL ks) c') (m + szL ks) (flatN (l0 ++ l)) ∧ FlatOf N d ks l ∧ Below n0 w w'
set_option maxRecDepth 100000 in
set_option maxHeartbeats 4000000 in
theorem flat_step (N : Int) (n0 : Nat) (ks : List Itm) (ih : ∀ ks', szL ks' < szL ks → FlC N n0 ks') : FlC N n0 ks := by
  intro vs l0 A Ai m c ni ci d w hl0 ho hk hni hit hn0 hb hd0 hd1
  have hvl := hit.len
  have HO := hid ho; have HKR := hid hk; have HIT := hid hit; have HIH := hid ih; have HL0 := hid hl0; have HNI := hid hni; have HN0 := hid hn0; have HVL := hid hvl; have HBD := hid hb; have HD := hid (And.intro hd0 hd1)
  clear ho hk hit ih hl0 hni hvl hb hn0
  have hnn : ni ≤ 2000000 := by have := HNI.out; have := HBD.out; have := len_szL ks; omega
  clear hd0 hd1
  go_enter Tryz.func16, Tryz.ntmps16
  go_wp2_with fail
  go_loopw [0, 11] (fun ov iv wr => ∃ (i : Nat) (A : Option Addr) (c : Nat) (l : List Nd), i ≤ ni ∧ iv = .int .i64 (i : Int) ∧ ov = .slice A (m + szL (ks.take i)) c ∧ Hid (wr.ownsRow n0 67 8 (.slice A (m + szL (ks.take i)) c) (m + szL (ks.take i)) (flatN (l0 ++ l))) ∧ Hid (FlatOf N d (ks.take i) l) ∧ Hid (Below n0 w wr) ∧ Hid (w.heap.size ≤ wr.heap.size)) (fun _ iv _ => ni - (intOf iv).toNat)
  case atStart => exact ⟨0, A, c, [], by omega, rfl, by simp [szL], hid (by simpa [szL] using HO.out), hid FlatOf.nil, hid (Below.refl _ _), hid (Nat.le_refl _)⟩
  case round =>
    obtain ⟨i, A2, c2, l, hi, rfl, rfl, hO, hF, hB, hZ⟩ := hrel
    by_cases hin : i < ni
    · have hvi : i < vs.length := by have := HNI.out; have := HVL.out; omega
      have hki : i < ks.length := by have := HNI.out; omega
      obtain ⟨g, hA, hg0, _, hr0⟩ := HKR.out.cellsAt hvi
      subst hA
      have hr := range_under hr0 hB.out hg0
      have hx := HIT.out.at i hvi hki
      have htk := take_k hki
      have hsz : szL (ks.take (i + 1)) = szL (ks.take i) + (ks[i]).sz := by rw [htk, szL_app, szL_one]
      have hle := szL_take ks (i + 1)
      rw [htk] at hle hsz
      have HTK := hid htk
      generalize vs[i] = v at hr hx
      generalize ks[i] = x at hx hsz htk hle HTK
      obtain ⟨nd, code, pos, kids⟩ := x
      rw [ItV] at hx
      obtain ⟨h1, h2, h3, h4, h5, us, h6, h7⟩ := hx
      rw [Itm.sz] at hsz
      have HV1 := hid h1; have HV2 := hid h2; have HV5 := hid h5; have HV6 := hid h6; have HV7 := hid h7; have HSZ := hid hsz; have HLE := hid hle
      have HOw := hid hO.out; have HFw := hid hF.out; have HBw := hid hB.out; have HZw := hid hZ.out
      have q1 : (i : Int) < (ni : Int) := by omega
      clear h1 h2 h3 h4 h5 h6 h7 hsz hle htk hO hF hB hZ hr0 hvi hki
      go_upto_region 4 with (first | (refine wp_load_it rfl (.tmp 13) rfl g (i * 11) v rfl hr ?_; simp only [ivA]))
      obtain ⟨b8, hb8⟩ : ∃ b, b = wr.heap.size := ⟨_, rfl⟩
      obtain ⟨w3, hw3⟩ : ∃ W, W = wr.alloc (.cells (ivC v).toArray 93) := ⟨_, rfl⟩
      have hB3 : ItB w3 b8 v := by rw [hw3, hb8]; exact nwB rfl
      have hl3 : Below wr.heap.size wr w3 := by rw [hw3]; exact (Below.refl _ _).alloc (Nat.le_refl _) _
      have HB3 := hid hB3; have HL3 := hid hl3; have HB8 := hid hb8
      have k1 := hB3.cells.k1; have z1 := hB3.cells.z1
      simp only [ivC] at hw3
      rw [← hw3, ← hb8]
      clear hw3 hb8 hB3 hl3
      obtain ⟨M, hM⟩ : ∃ M, M = m + szL (List.take i ks) := ⟨_, rfl⟩
      have HM := hid hM
      rw [← hM] at HOw
      rw [← hM]
      clear hM
      go_upto_region 5 with (fail)
      obtain ⟨w4, hw4⟩ : ∃ W, W = w3.setCell ⟨b8, 1, none⟩ (.int .i64 d) := ⟨_, rfl⟩
      obtain ⟨u, hu⟩ : ∃ u : Iv, u = { v with nd := { v.nd with depth := d } } := ⟨_, rfl⟩
      have HB4 := hid (show ItB w4 b8 u by rw [hw4, hu]; exact HB3.out.set_depth)
      have HL4 := hid (show Below wr.heap.size wr w4 by rw [hw4]; exact HL3.out.setCell (p := ⟨b8, 1, none⟩) (by have := HB8.out; simp; omega) _)
      have HU := hid hu
      have hd0 : 0 ≤ d := HD.out.1
      have hd1 : d ≤ 2000000 := by have := HD.out.2; omega
      have hwr : IntKind.i64.wrap (d + 1) = d + 1 := by simp only [IntKind.wrap_i64]; omega
      rw [← hw4]
      clear hw4 hu k1 z1
      refine region_call [0, 1, 2, 5, 6, 7, 8] [3, 4] [9, 10] (fun W => ItB W b8 u) (by kernel_rfl) (by kernel_rfl) (fun d _ _ _ _ h => by cases d <;> exact h) HB4.out ?_
      apply Exists.intro
      simp only [List.map_cons, List.map_nil, List.getD_cons_zero, List.getD_cons_succ]
      refine ⟨⟨_, Or.inl ⟨by rfl, fun W hW => by first | (go_simp; rfl) | go_simp⟩, _, Or.inl ⟨by rfl, fun W hW => by first | (go_simp; rfl) | go_simp⟩, _, yieldsIf_load_mid (by rfl) _ _ rfl b8 0 rfl u.nd.cells _ (fun W hW => ItB.ndRange hW) Tryz.underNodeT (by kernel_rfl) (by kernel_rfl), _, Or.inl ⟨by rfl, fun W hW => by first | (go_simp; rfl) | go_simp⟩, .slice u.ka u.kn u.kc, Or.inl ⟨by rfl, fun W hW => by have k10 := (ItB.cells hW).k10; simp only [Act.put, List.setIfInBounds_toArray, List.set_cons_zero, List.set_cons_succ]; go_simp⟩, _, Or.inl ⟨by rfl, fun W hW => by first | (go_simp; rfl) | go_simp⟩, .int .i64 (d + 1), Or.inl ⟨by rfl, fun W hW => by simp only [Act.put, List.setIfInBounds_toArray, List.set_cons_zero, List.set_cons_succ]; go_simp⟩, rfl⟩, ?_⟩
      simp only [Act.put, List.setIfInBounds_toArray, List.set_cons_zero, List.set_cons_succ]
      obtain ⟨w5, hw5⟩ : ∃ W, W = w4.drew := ⟨_, rfl⟩
      have HB5 := hid (show ItB w5 b8 u by rw [hw5]; exact HB4.out)
      have HL5 := hid (show Below wr.heap.size wr w5 by rw [hw5]; exact HL4.out.drew)
      rw [← hw5]
      clear hw5
      have hbn : n0 ≤ wr.heap.size := Nat.le_trans HN0.out HZw.out
      have HO5 := hid (own_keep HOw.out HL5.out)
      have hm5 : M ≤ 10000000000 := by have := HM.out; have := HBD.out; have := szL_take ks i; omega
      have hz5 : n0 ≤ w5.heap.size := Nat.le_trans hbn HL5.out.size
      simp only [Nd.cells]
      refine wpMid_step rfl (fun K hK => ?_)
      go_simp
      refine hK.out _ _ (HB5.out.alloc _) ?_
      clear hK K
      refine wpMid_step rfl (fun K hK => ?_)
      refine op_elemF (.tmp 18) (.tmp 21) Tryz.underlying28 Tryz.infoNode rfl (by decide) (by decide) rfl n0 _ M (flatN (l0 ++ l)) rfl (HO5.out.alloc _) ⟨w5.heap.size, 0, none⟩ u.nd.cells rfl rfl (fun j x h => cell_news_at w5 u.nd.cells _ rfl j x h) (by simp [Nd.cells, Value.oneCell']) hm5 (by simp; omega) ?_
      intro v6 w6 ho6 hg6 hf6
      obtain ⟨A6, c6, rfl⟩ := own_slice ho6
      have hb6 : Below n0 w w6 := (((HBw.out.trans (HL5.out.mono hbn)).alloc hz5 _).grown hg6 (by simp; omega) (fun k e => (HO5.out.lt k e).1))
      have hB6 : ItB w6 b8 u := by
        refine (HB5.out.alloc _).grown hg6 fun e => ?_
        obtain ⟨_, h2⟩ := HO5.out.alloc (.cells #[] 67)
        rcases HO5.out.2 with ⟨h3, _⟩ | ⟨g9, cap, cur, h3, _, h4, _⟩
        · rw [h3] at e; cases e
        · rw [h3] at e
          injection e with e
          simp only [] at e
          subst e
          have h5 := HB5.out
          unfold ItB at h5
          rw [h4] at h5
          injection h5 with h5
          injection h5 with _ h6 _
          exact absurd h6 (by decide)
      have HB6 := hid hb6; have HO6 := hid ho6
      have hz6 : w5.heap.size ≤ w6.heap.size := Nat.le_trans (by simp) hg6.size
      have HZ6 := hid hz6
      refine hK.out _ _ hB6 ?_
      clear hK K hB6 hb6 ho6 hg6 hf6
      have hsk : szL kids < szL ks := by have := HSZ.out; have := HLE.out; rw [szL_app, szL_one, Itm.sz] at this; omega
      have hbd6 : M + 1 + szL kids ≤ 2000000 := by have := HM.out; have := HBD.out; have := HLE.out; rw [szL_app, szL_one, Itm.sz] at this; omega
      have hln : (l0 ++ l ++ [u.nd]).length = M + 1 := by
        simp only [List.length_append, List.length_cons, List.length_nil]
        have := HFw.out.len; have := HL0.out; have := HM.out
        omega
      have hkr : KidR (fun b => b < n0) w6 (.slice u.ka u.kn u.kc) us := by
        rw [HU.out]
        exact HV6.out.keep (fun _ h => h) (fun b hb => HB6.out.block b hb)
      have hds : (d + 1) + (szL kids : Int) ≤ 2000000 := by have := HD.out.2; omega
      have hcall := HIH.out kids hsk us (l0 ++ l ++ [u.nd]) A6 u.ka (M + 1) c6 u.kn u.kc (d + 1) w6 hln (by rw [flatN_app, flatN_sing]; exact HO6.out) hkr (by rw [HU.out]; exact HV5.out) (HV7.out.keep (Int.le_refl _) (fun _ h => h) (fun b hb => HB6.out.block b hb)) (Nat.le_trans hz5 HZ6.out) hbd6 (by omega) hds
      simp only [wpMid, Act.put, List.setIfInBounds_toArray, List.set_cons_zero, List.set_cons_succ]
      go_wp2_with (first | (go_at_call 16; refine hcall.mono ?_; rintro e w7 ⟨A7, c7, l2, rfl, ho7, hf7, hb7⟩; have HO7 := hid ho7; have HF7 := hid hf7; have HB7 := hid hb7; clear ho7 hf7 hb7))
      go_roundw
      case rel =>
        have hn7 : m + szL (ks.take (i + 1)) = M + 1 + szL kids := by
          rw [HTK.out, szL_app, szL_one, Itm.sz]
          have := HM.out
          omega
        have hun : u.nd = { nd with depth := d, sign := v.nd.sign } := by
          rw [HU.out]
          show ({ v.nd with depth := d } : Nd) = _
          rw [HV1.out]
        refine ⟨i + 1, A7, c7, l ++ u.nd :: l2, by omega, by go_num, by rw [hn7], ?_, ?_, hid (HB6.out.trans HB7.out), hid (Nat.le_trans HZw.out (Nat.le_trans HL5.out.size (Nat.le_trans HZ6.out HB7.out.size)))⟩
        · rw [hn7]
          have := HO7.out
          rw [show l0 ++ l ++ [u.nd] ++ l2 = l0 ++ (l ++ u.nd :: l2) by simp] at this
          exact this
        · rw [HTK.out, hun]
          exact HFw.out.snoc HF7.out HV2.out
      case measure => simp [intOf]; omega
    · obtain rfl : i = ni := by omega
      have htk : ks.take i = ks := List.take_of_length_le (by have := HNI.out; omega)
      have e1 : decide ((i : Int) < (i : Int)) = false := by simp
      rw [htk] at hO hF ⊢
      clear htk
      go_wp2_with fail
      go_ret
      exact ⟨A2, c2, l, rfl, hO.out, hF.out, hB.out⟩
theorem flat_lvl (N : Int) (n0 : Nat) : ∀ (n : Nat) (ks : List Itm), szL ks ≤ n → FlC N n0 ks
  | 0, ks, h => flat_step N n0 ks (fun ks' h' => by omega)
  | n + 1, ks, h => flat_step N n0 ks (fun ks' h' => flat_lvl N n0 n ks' (by omega))
/-- flatten, for any items. -/
theorem flat_any (N : Int) (n0 : Nat) (ks : List Itm) : FlC N n0 ks := flat_lvl N n0 (szL ks) ks (Nat.le_refl _)
end Go.Proofs.YtimblabaeclhpaaGreat
