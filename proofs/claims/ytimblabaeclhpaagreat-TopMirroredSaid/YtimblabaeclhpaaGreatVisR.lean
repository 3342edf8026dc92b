/- PLAIN LAW: what the map of codes holds. -/
import Derived.Test.YtimblabaeclhpaaGreatSgn7
import Derived.Maps.OwnSet
import Derived.Test.YtimblabaeclhpaaGreatRd
import Derived.Test.YtimblabaeclhpaaGreatFltW
import Derived.Test.YtimblabaeclhpaaGreatPar
namespace Go.Proofs.YtimblabaeclhpaaGreat
open Go.RowKit Go.Maps
/-- The map behind k signs: each code's number is below N; the codes of the first k signs are in it. -/
structure Cods (l : List Sg) (N : Int) (k : Nat) (D : DataW Unit) : Prop where
  map : Maps.IsMap D
  at_ : ∀ t : ByteArray, ∀ c : Int, D.atKey (.string t.data.toList) (.lit (.int .i64 0)) = .lit (.int .i64 c) → 0 ≤ c ∧ c < N
  has : ∀ i : Nat, i < k → Maps.has D (.string (sg l i).code.data.toList) = true
theorem Cods.nil (l : List Sg) {N : Int} (hN : 0 < N) : Cods l N 0 (.map []) := ⟨⟨_, rfl⟩, fun t c h => by
  have h2 : (DataW.map (H := Unit) []).atKey (.string t.data.toList) (.lit (.int .i64 0)) = .lit (.int .i64 0) := rfl
  rw [h2] at h
  injection h with h
  injection h with _ h
  omega, fun i h => by omega⟩
theorem Cods.next {l : List Sg} {N : Int} {k : Nat} {D : DataW Unit} (h : Cods l N k D) (hk : (k : Int) < N) : Cods l N (k + 1) (D.put (.string (sg l k).code.data.toList) (.lit (.int .i64 (k : Int)))) := by
  refine ⟨?_, fun t c hc => ?_, fun i hi => ?_⟩
  · obtain ⟨es, rfl⟩ := h.map
    exact ⟨_, rfl⟩
  · by_cases e : t.data.toList = (sg l k).code.data.toList
    · rw [e, atKey_put_same h.map (by trivial)] at hc
      injection hc with hc
      injection hc with _ hc
      omega
    · rw [atKey_put_other (by intro h2; injection h2 with h2; exact e h2)] at hc
      exact h.at_ t c hc
  · by_cases e : (sg l i).code.data.toList = (sg l k).code.data.toList
    · rw [e]
      exact has_put_same h.map (by trivial) _
    · rw [has_put_other (by intro h2; injection h2 with h2; exact e h2)]
      refine h.has i ?_
      by_cases hik : i = k
      · subst hik; exact absurd rfl e
      · omega
end Go.Proofs.YtimblabaeclhpaaGreat

/- WALK: resolve's visit: the signs of all glyphs. -/
namespace Go.Proofs.YtimblabaeclhpaaGreat
open Go.RowKit Go.Maps
mutual
/-- All glyphs' codes are such that K holds. -/
def Itm.known (K : ByteArray → Prop) : Itm → Prop
  | .mk nd code _ kids => (nd.kind = 1 → K code) ∧ knownL K kids
def knownL (K : ByteArray → Prop) : List Itm → Prop
  | [] => True
  | x :: ks => x.known K ∧ knownL K ks
end
theorem knownL.at {K : ByteArray → Prop} : ∀ {ks : List Itm} (_ : knownL K ks) (i : Nat) (hi : i < ks.length), (ks[i]).known K
  | x :: ks, h, 0, _ => by rw [knownL] at h; exact h.1
  | x :: ks, h, i + 1, hi => by rw [knownL] at h; exact knownL.at h.2 i (by simpa using hi)
mutual
theorem Itm.known.mono {K L : ByteArray → Prop} (h : ∀ c, K c → L c) : ∀ {x : Itm}, x.known K → x.known L
  | .mk nd c _ kids, hx => by rw [Itm.known] at hx ⊢; exact ⟨fun e => h c (hx.1 e), knownL.mono h hx.2⟩
theorem knownL.mono {K L : ByteArray → Prop} (h : ∀ c, K c → L c) : ∀ {ks : List Itm}, knownL K ks → knownL L ks
  | [], _ => by rw [knownL]; trivial
  | x :: ks, hx => by rw [knownL] at hx ⊢; exact ⟨Itm.known.mono h hx.1, knownL.mono h hx.2⟩
end
/-- The code is in the map. -/
def HasC (D : DataW Unit) (c : ByteArray) : Prop := Maps.has D (.string c.data.toList) = true
/-- What is kept: all below n1, and the three blocks. -/
structure VKp (n1 bm bv mb : Nat) (w w' : World) : Prop where
  os : w'.os = w.os
  tape : w'.tape = w.tape
  output : w'.output = w.output
  size : w.heap.size ≤ w'.heap.size
  block : ∀ b, (b < n1 ∨ b = bm ∨ b = bv ∨ b = mb) → w'.heap[b]? = w.heap[b]?
/-- The blocks that items may lie in. -/
def VQ (n1 bm bv mb : Nat) (b : Nat) : Prop := n1 ≤ b ∧ b ≠ bm ∧ b ≠ bv ∧ b ≠ mb
theorem VKp.refl (n1 bm bv mb : Nat) (w : World) : VKp n1 bm bv mb w w := ⟨rfl, rfl, rfl, Nat.le_refl _, fun _ _ => rfl⟩
theorem VKp.trans {n1 bm bv mb : Nat} {a b c : World} (h : VKp n1 bm bv mb a b) (k : VKp n1 bm bv mb b c) : VKp n1 bm bv mb a c :=
  ⟨k.os.trans h.os, k.tape.trans h.tape, k.output.trans h.output, Nat.le_trans h.size k.size, fun i hi => (k.block i hi).trans (h.block i hi)⟩
theorem VKp.drewN {n1 bm bv mb : Nat} {a w : World} (h : VKp n1 bm bv mb a w) (n : Nat) : VKp n1 bm bv mb a (w.drewN n) := ⟨h.os, h.tape, h.output, h.size, h.block⟩
theorem VKp.drew {n1 bm bv mb : Nat} {a w : World} (h : VKp n1 bm bv mb a w) : VKp n1 bm bv mb a w.drew := ⟨h.os, h.tape, h.output, h.size, h.block⟩
theorem VKp.set {n1 bm bv mb g k : Nat} {a w : World} (h : VKp n1 bm bv mb a w) (hg : VQ n1 bm bv mb g) (v : Value) : VKp n1 bm bv mb a (w.setCell ⟨g, k, none⟩ v) :=
  ⟨h.os, h.tape, h.output, by simpa using h.size, fun b hb => (Below.heap_setCell _ _ _ _ (by
    obtain ⟨h1, h2, h3, h4⟩ := hg
    simp only []
    rcases hb with q | q | q | q <;> omega)).trans (h.block b hb)⟩
/-- What visit finds: the map's cell, its own, the map. -/
structure VEnv (N : Int) (bm bv mb k : Nat) (D : DataW Unit) (w : World) : Prop where
  m : w.heap[bm]? = some (.cells #[.map (some mb)] 80 (0, 0))
  v : w.heap[bv]? = some (.cells #[.func (.func 29) #[] #[.pointer (some ⟨bm, 0, none⟩), .pointer (some ⟨bv, 0, none⟩)]] 90 (0, 0))
  own : w.ownsMap Tryz.prog 9 (plainElem (H := Unit) Tryz.prog 3) mb k D
theorem VEnv.keep {N : Int} {n1 bm bv mb k : Nat} {D : DataW Unit} {w w' : World} (h : VEnv N bm bv mb k D w) (hk : VKp n1 bm bv mb w w') : VEnv N bm bv mb k D w' := by
  refine ⟨(hk.block _ (.inr (.inl rfl))).trans h.m, (hk.block _ (.inr (.inr (.inl rfl)))).trans h.v, ?_⟩
  obtain ⟨es, clock, hb, r⟩ := h.own
  exact ⟨es, clock, (hk.block _ (.inr (.inr (.inr rfl)))).trans hb, r⟩
set_option maxRecDepth 100000 in
/-- What a look into the map gives, in every world that holds it. -/
theorem look_code {w : World} {mb k : Nat} {D : DataW Unit} (h : w.ownsMap Tryz.prog 9 (plainElem (H := Unit) Tryz.prog 3) mb k D) (co : ByteArray) (hc : co.size ≤ 1000000) :
    ∃ c : Int, D.atKey (.string co.data.toList) (.lit (.int .i64 0)) = .lit (.int .i64 c) ∧ ∀ W : World, W.heap[mb]? = w.heap[mb]? → (Instr.lookup 80 (.map (some mb)) (.string co) true).run Tryz.prog W = .ok (.tuple #[.int .i64 c, .bool (Maps.has D (.string co.data.toList))]) W := by
  have hkey : keyOf Tryz.prog 9 (.string co) = some (.string co.data.toList) := WideMaps.keyOf_string_mk Tryz.underlying9 (by unfold maxLen; omega)
  have key : ∀ W : World, W.heap[mb]? = w.heap[mb]? → ∃ c : Int, D.atKey (.string co.data.toList) (.lit (.int .i64 0)) = .lit (.int .i64 c) ∧ (Instr.lookup 80 (.map (some mb)) (.string co) true).run Tryz.prog W = .ok (.tuple #[.int .i64 c, .bool (Maps.has D (.string co.data.toList))]) W := by
    intro W hW
    have hown : W.ownsMap Tryz.prog 9 (plainElem (H := Unit) Tryz.prog 3) mb k D := by
      obtain ⟨es, clock, hb, r⟩ := h
      exact ⟨es, clock, hW.trans hb, r⟩
    obtain ⟨v, ps, hrun, hv⟩ := hown.look_ok lawS Tryz.underlying80 (zeroI W) (plainElem_int Tryz.underlying3 (by decide)) hkey
    obtain ⟨c, rfl, hc2, _⟩ := plainElem_int_inv Tryz.underlying3 hv
    simp only [Prod.mk.injEq] at hc2
    exact ⟨c, hc2.1, hrun⟩
  obtain ⟨c, hc1, _⟩ := key w rfl
  refine ⟨c, hc1, fun W hW => ?_⟩
  obtain ⟨c2, hc3, hrun⟩ := key W hW
  rw [hc1] at hc3
  injection hc3 with hc3
  injection hc3 with _ hc3
  rw [hc3]
  exact hrun
/-- All items that stand, stand. -/
def AllIt (N : Int) (Q : Nat → Prop) (w w' : World) : Prop := ∀ v ks, ItS N Q w v ks → ItS N Q w' v ks
theorem AllIt.refl (N : Int) (Q : Nat → Prop) (w : World) : AllIt N Q w w := fun _ _ h => h
theorem AllIt.trans {N : Int} {Q : Nat → Prop} {a b c : World} (h : AllIt N Q a b) (k : AllIt N Q b c) : AllIt N Q a c := fun v ks x => k v ks (h v ks x)
theorem AllIt.of_heap {N : Int} {Q : Nat → Prop} {a b : World} (h : b.heap = a.heap) : AllIt N Q a b := fun v ks ⟨vs, h1, h2⟩ => ⟨vs, h1.keep (fun _ h => h) (fun b _ => by rw [h]), h2.keep (Int.le_refl _) (fun _ h => h) (fun b _ => by rw [h])⟩
theorem ItS.drew {N : Int} {Q : Nat → Prop} {w : World} {v : Value} {ks : List Itm} (h : ItS N Q w v ks) : ItS N Q w.drew v ks := by
  obtain ⟨vs, h1, h2⟩ := h
  exact ⟨vs, h1.keep (w' := w.drew) (fun _ h => h) (fun _ _ => rfl), ItL.keep (w := w) (w' := w.drew) (Int.le_refl _) (fun _ h => h) (fun _ _ => rfl) h2⟩
/-- What visit does with the items ks. -/
def VisC (N : Int) (n1 bm bv mb k : Nat) (D : DataW Unit) (ks : List Itm) : Prop := ∀ (A : Option Addr) (n c : Nat) (w : World), VEnv N bm bv mb k D w → ItS N (VQ n1 bm bv mb) w (.slice A n c) ks → n = ks.length → szL ks ≤ 2000000 → codL 1000000 ks →
  Calls Tryz.prog 29 #[.slice A n c, .pointer (some ⟨bm, 0, none⟩), .pointer (some ⟨bv, 0, none⟩)] w fun e w' => ∃ r : Int, e = .returned (.int .i64 r) ∧ Hid (knownL (HasC D) ks → r < 0) ∧ VKp n1 bm bv mb w w' ∧ AllIt N (VQ n1 bm bv mb) w w'
set_option maxRecDepth 100000 in
set_option maxHeartbeats 4000000 in
theorem vis_step (N : Int) (n1 bm bv mb k : Nat) (D : DataW Unit) (l : List Sg) (hD : Cods l N k D) (ks : List Itm) (ih : ∀ ks', szL ks' < szL ks → VisC N n1 bm bv mb k D ks') : VisC N n1 bm bv mb k D ks := by
  intro A n c w hv hi hn hb hcl
  have HV := hid hv; have HI := hid hi; have HN := hid hn; have HBD := hid hb; have HCL := hid hcl; have HIH := hid ih; have HD := hid hD
  have hnn : n ≤ 2000000 := by have := len_szL ks; omega
  clear hv hi hn hb hcl ih hD
  go_enter Tryz.func29, Tryz.ntmps29
  go_wp2_with fail
  go_loopw [12] (fun iv wr => ∃ i : Nat, i ≤ n ∧ iv = .int .i64 (i : Int) ∧ Hid (VKp n1 bm bv mb w wr) ∧ Hid (AllIt N (VQ n1 bm bv mb) w wr)) (fun iv _ => n - (intOf iv).toNat)
  case atStart => exact ⟨0, by omega, rfl, hid (VKp.refl _ _ _ _ _), hid (AllIt.refl _ _ _)⟩
  case round =>
    obtain ⟨i, hi, rfl, hK, hA⟩ := hrel
    by_cases hin : i < n
    · obtain ⟨vs, hkr, hit⟩ := hA.out _ _ HI.out
      have hki : i < ks.length := by have := HN.out; omega
      have hvi : i < vs.length := by have := hit.len; omega
      have hown := hkr.1
      rw [show vs.length = n by have := hit.len; have := HN.out; omega] at hown
      obtain ⟨g, hAg, hQg, hgl, hr⟩ := hkr.cellsAt hvi
      subst hAg
      have hz2 := hown.frozenAt (i * 11 + 2)
      have hx := hit.at i hvi hki
      have hcx := HCL.out.at i hki
      have hkn : knownL (HasC D) ks → (ks[i]).known (HasC D) := fun h => h.at i hki
      have hsz : (ks[i]).sz ≤ szL ks := by
        have := szL_take ks (i + 1)
        rw [take_k hki, szL_app, szL_one] at this
        omega
      generalize vs[i] = v at hr hx
      generalize ks[i] = x at hx hsz hcx hkn
      obtain ⟨nd, code, pos, kids⟩ := x
      rw [ItV] at hx
      obtain ⟨h1, h2, h3, h4, h5, us, h6, h7⟩ := hx
      rw [Itm.sz] at hsz
      rw [Itm.cod] at hcx
      rw [Itm.known] at hkn
      have hkd : v.nd.kind = nd.kind := by rw [h1]
      have c0 := hr 0 (.int .i64 v.nd.kind) rfl
      have c2 := hr 2 (.int .i64 v.nd.sign) rfl
      have c8 := hr 8 (.string v.code) rfl
      have c9 := hr 9 (.int .i64 v.pos) rfl
      have c10 := hr 10 (.slice v.ka v.kn v.kc) rfl
      rw [hkd, Nat.add_zero] at c0
      rw [h3] at c8
      rw [h4] at c9
      have q1 : (i : Int) < (n : Int) := by omega
      have HKN := hid hkn; have HSZ := hid hsz; have HCX := hid hcx; have HQG := hid hQg; have HKK := hid hK.out; have HAA := hid hA.out
      have HE := hid (HV.out.keep hK.out)
      have HKS := hid (show ItS N (VQ n1 bm bv mb) wr (.slice v.ka v.kn v.kc) kids from ⟨us, h6, h7⟩)
      have HKL := hid h5
      clear hkn hsz hcx hQg hK hA hkr hit hown hr h1 h2 h3 h4 h5 h6 h7 hkd hvi hki
      have p1 := cell_of_one HE.out.m
      by_cases hk1 : nd.kind = 1
      · have q2 : (nd.kind == 1) = true := by simp [hk1]
        obtain ⟨cc, hat, hlk⟩ := look_code HE.out.own code HCX.out.1
        have HLK := hid fun (W : World) (h : W.heap = wr.heap) => hlk W (by rw [h])
        have HCC := hid (HD.out.at_ _ _ hat)
        have HRD := hid fun (W : World) (h : W.heap = wr.heap) => (show W.cell? ⟨bm, 0, none⟩ = some (.map (some mb)) ∧ W.cell? ⟨g, i * 11 + 8, none⟩ = some (.string code) from by
          refine ⟨?_, ?_⟩
          · rw [← p1]; unfold World.cell?; rw [h]
          · rw [← c8]; unfold World.cell?; rw [h])
        obtain ⟨hb, hhb⟩ : ∃ hb, hb = Maps.has D (.string code.data.toList) := ⟨_, rfl⟩
        rw [← hhb] at HLK
        have HHB := hid hhb
        clear hlk hat hhb
        go_upto_region 6 with (fail)
        refine region_call [0, 1, 2, 3, 4, 5, 6, 7, 8, 9] [] [10] (fun W => W.heap = wr.heap) (by kernel_rfl) (by kernel_rfl) (fun d _ _ _ _ h => by cases d <;> exact h) rfl ?_
        apply Exists.intro
        simp only [List.map_cons, List.map_nil, List.getD_cons_zero, List.getD_cons_succ]
        refine ⟨⟨.map (some mb), Or.inl ⟨by rfl, fun W hW => by have p := (HRD.out W hW).1; go_simp⟩, _, Or.inl ⟨by rfl, fun W hW => by go_simp; rfl⟩, _, Or.inl ⟨by rfl, fun W hW => by go_simp; rfl⟩, _, Or.inl ⟨by rfl, fun W hW => by go_simp; rfl⟩, .string code, Or.inl ⟨by rfl, fun W hW => by have p := (HRD.out W hW).2; go_simp⟩, .tuple #[.int .i64 cc, .bool hb], Or.inl ⟨by rfl, fun W hW => by have p := HLK.out W hW; go_simp⟩, .tuple #[.int .i64 cc, .bool hb], Or.inl ⟨by rfl, fun W hW => by go_simp⟩, .int .i64 cc, Or.inl ⟨by rfl, fun W hW => by go_simp⟩, .bool hb, Or.inl ⟨by rfl, fun W hW => by go_simp⟩, .int .i64 cc, Or.inl ⟨by rfl, fun W hW => by go_simp⟩, rfl⟩, ?_⟩
        simp only [wpMid, Act.put, List.setIfInBounds_toArray, List.set_cons_zero, List.set_cons_succ]
        cases hb with
        | false =>
          have HX := hid (show ¬ knownL (HasC D) ks from fun h => by have := (HKN.out h).1 hk1; unfold HasC at this; rw [← HHB.out] at this; cases this)
          clear hk1
          go_wp2_with fail
          go_ret
          exact ⟨pos, rfl, hid fun h => absurd h HX.out, by first | exact HKK.out | exact HKK.out.drewN _, by first | exact HAA.out | exact HAA.out.trans (AllIt.of_heap rfl)⟩
        | true =>
          have HCN := hid (show ((wr.setCell ⟨g, i * 11 + 2, none⟩ (.int .i64 cc)).drew).cell? ⟨g, i * 11 + 10, none⟩ = some (.slice v.ka v.kn v.kc) from by
            show (wr.setCell ⟨g, i * 11 + 2, none⟩ (.int .i64 cc)).cell? _ = _
            exact (World.cell?_setCell_other wr _ _ _ (by intro e; injection e with _ e; omega)).trans c10)
          clear hk1
          go_upto_region 10 with (fail)
          obtain ⟨w9, hw9⟩ : ∃ W, W = (wr.setCell ⟨g, i * 11 + 2, none⟩ (.int .i64 cc)).drew := ⟨_, rfl⟩
          have HE9 := hid (show VEnv N bm bv mb k D w9 by rw [hw9]; exact HE.out.keep (((VKp.refl n1 bm bv mb wr).set HQG.out _).drew))
          have HI9 := hid (show ItS N (VQ n1 bm bv mb) w9 (.slice v.ka v.kn v.kc) kids by rw [hw9]; exact (HKS.out.store HCC.out).drew)
          have HK9 := hid (show VKp n1 bm bv mb w w9 by rw [hw9]; exact (HKK.out.set HQG.out _).drew)
          have HA9 := hid (show AllIt N (VQ n1 bm bv mb) w w9 by rw [hw9]; exact (HAA.out.trans fun _ _ h => ItS.store HCC.out h).trans (AllIt.of_heap (a := wr.setCell ⟨g, i * 11 + 2, none⟩ (.int .i64 cc)) (b := (wr.setCell ⟨g, i * 11 + 2, none⟩ (.int .i64 cc)).drew) rfl))
          have d10 : w9.cell? ⟨g, i * 11 + 10, none⟩ = some (.slice v.ka v.kn v.kc) := by rw [hw9]; exact HCN.out
          have d2 := cell_of_one HE9.out.v
          rw [← hw9]
          clear hw9 c0 c2 c8 c9 c10 hz2 p1 HE HKS HAA
          have hcall := HIH.out kids (by have := HSZ.out; omega) v.ka v.kn v.kc w9.drew (HE9.out.keep (VKp.refl n1 bm bv mb w9).drew) HI9.out.drew HKL.out (by have := HSZ.out; have := HBD.out; omega) HCX.out.2
          have HCA := hid hcall
          clear hcall
          go_still_tail 5, (by kernel_rfl)
          change wpList _ _ _ _ _ w9.drew
          go_wp2_with fail
          refine HCA.out.mono ?_
          rintro e w7 ⟨r, rfl, hr7, k7, a7⟩
          have HR7 := hr7; have K7 := hid (HK9.out.drew.trans k7); have A7 := hid ((HA9.out.trans (AllIt.of_heap (a := w9) (b := w9.drew) rfl)).trans a7)
          clear hr7 k7 a7
          by_cases hr0 : 0 ≤ r
          · have e0 : decide (0 ≤ r) = true := decide_eq_true hr0
            have HX := hid (show ¬ knownL (HasC D) ks from fun h => by have := HR7.out (HKN.out h).2; omega)
            clear hr0
            go_wp2_with fail
            go_ret
            exact ⟨r, rfl, hid fun h => absurd h HX.out, K7.out, A7.out⟩
          · have e0 : decide (0 ≤ r) = false := decide_eq_false hr0
            clear hr0
            go_wp2_with fail
            go_roundw
            case rel => exact ⟨i + 1, by omega, by go_num, K7, A7⟩
            case measure => simp [intOf]; omega
      · have q2 : (nd.kind == 1) = false := by simp [hk1]
        clear hk1
        go_upto_region 10 with (fail)
        obtain ⟨w9, hw9⟩ : ∃ W, W = wr := ⟨_, rfl⟩
        have HE9 := hid (show VEnv N bm bv mb k D w9 by rw [hw9]; exact HE.out)
        have HI9 := hid (show ItS N (VQ n1 bm bv mb) w9 (.slice v.ka v.kn v.kc) kids by rw [hw9]; exact HKS.out)
        have HK9 := hid (show VKp n1 bm bv mb w w9 by rw [hw9]; exact HKK.out)
        have HA9 := hid (show AllIt N (VQ n1 bm bv mb) w w9 by rw [hw9]; exact HAA.out)
        have d10 : w9.cell? ⟨g, i * 11 + 10, none⟩ = some (.slice v.ka v.kn v.kc) := by rw [hw9]; exact c10
        have d2 := cell_of_one HE9.out.v
        rw [← hw9]
        clear hw9 c0 c2 c8 c9 c10 hz2 p1 HE HKS HAA
        have hcall := HIH.out kids (by have := HSZ.out; omega) v.ka v.kn v.kc w9.drew (HE9.out.keep (VKp.refl n1 bm bv mb w9).drew) HI9.out.drew HKL.out (by have := HSZ.out; have := HBD.out; omega) HCX.out.2
        have HCA := hid hcall
        clear hcall
        go_still_tail 5, (by kernel_rfl)
        change wpList _ _ _ _ _ w9.drew
        go_wp2_with fail
        refine HCA.out.mono ?_
        rintro e w7 ⟨r, rfl, hr7, k7, a7⟩
        have HR7 := hr7; have K7 := hid (HK9.out.drew.trans k7); have A7 := hid ((HA9.out.trans (AllIt.of_heap (a := w9) (b := w9.drew) rfl)).trans a7)
        clear hr7 k7 a7
        by_cases hr0 : 0 ≤ r
        · have e0 : decide (0 ≤ r) = true := decide_eq_true hr0
          have HX := hid (show ¬ knownL (HasC D) ks from fun h => by have := HR7.out (HKN.out h).2; omega)
          clear hr0
          go_wp2_with fail
          go_ret
          exact ⟨r, rfl, hid fun h => absurd h HX.out, K7.out, A7.out⟩
        · have e0 : decide (0 ≤ r) = false := decide_eq_false hr0
          clear hr0
          go_wp2_with fail
          go_roundw
          case rel => exact ⟨i + 1, by omega, by go_num, K7, A7⟩
          case measure => simp [intOf]; omega
    · obtain rfl : i = n := by omega
      have q1 : decide ((i : Int) < (i : Int)) = false := by simp
      go_wp2_with fail
      go_ret
      exact ⟨-1, rfl, hid fun _ => by decide, hK.out, hA.out⟩
theorem vis_lvl (N : Int) (n1 bm bv mb k : Nat) (D : DataW Unit) (l : List Sg) (hD : Cods l N k D) : ∀ (n : Nat) (ks : List Itm), szL ks ≤ n → VisC N n1 bm bv mb k D ks
  | 0, ks, h => vis_step N n1 bm bv mb k D l hD ks (fun ks' h' => by omega)
  | n + 1, ks, h => vis_step N n1 bm bv mb k D l hD ks (fun ks' h' => vis_lvl N n1 bm bv mb k D l hD n ks' (by omega))
/-- visit, for any items. -/
theorem vis_any (N : Int) (n1 bm bv mb k : Nat) (D : DataW Unit) (l : List Sg) (hD : Cods l N k D) (ks : List Itm) : VisC N n1 bm bv mb k D ks := vis_lvl N n1 bm bv mb k D l hD (szL ks) ks (Nat.le_refl _)
end Go.Proofs.YtimblabaeclhpaaGreat

/- WALK: resolve: the map of the codes, then visit. -/
namespace Go.Proofs.YtimblabaeclhpaaGreat
open Go.RowKit Go.Maps
theorem KidR.lt {Q : Nat → Prop} {w : World} {v : Value} {vs : List Iv} (h : KidR Q w v vs) : KidR (fun b => Q b ∧ b < w.heap.size) w v vs := ⟨h.1, fun g hg => ⟨h.2 g hg, (h.1.lt g hg).2⟩⟩
mutual
theorem ItV.lt {N : Int} {Q : Nat → Prop} {w : World} : ∀ {v : Iv} {x : Itm}, ItV N Q w v x → ItV N (fun b => Q b ∧ b < w.heap.size) w v x
  | v, .mk nd code pos kids, h => by
    rw [ItV] at h ⊢
    obtain ⟨h1, h2, h3, h4, h5, vs, h6, h7⟩ := h
    exact ⟨h1, h2, h3, h4, h5, vs, h6.lt, ItL.lt h7⟩
theorem ItL.lt {N : Int} {Q : Nat → Prop} {w : World} : ∀ {vs : List Iv} {ks : List Itm}, ItL N Q w vs ks → ItL N (fun b => Q b ∧ b < w.heap.size) w vs ks
  | vs, [], h => by rw [ItL] at h ⊢; exact h
  | vs, x :: ks, h => by
    rw [ItL] at h ⊢
    obtain ⟨v, us, rfl, h3, h4⟩ := h
    exact ⟨v, us, rfl, ItV.lt h3, ItL.lt h4⟩
end
theorem ItS.keep {N : Int} {Q Q' : Nat → Prop} {w w' : World} {v : Value} {ks : List Itm} (h : ItS N Q w v ks) (hq : ∀ b, Q b → Q' b) (hb : ∀ b, Q b → w'.heap[b]? = w.heap[b]?) : ItS N Q' w' v ks := by
  obtain ⟨vs, h1, h2⟩ := h
  exact ⟨vs, h1.keep hq hb, h2.keep (Int.le_refl _) hq hb⟩
theorem ItS.lt {N : Int} {Q : Nat → Prop} {w : World} {v : Value} {ks : List Itm} (h : ItS N Q w v ks) : ItS N (fun b => Q b ∧ b < w.heap.size) w v ks := by
  obtain ⟨vs, h1, h2⟩ := h
  exact ⟨vs, h1.lt, h2.lt⟩
theorem lit64 {k : Nat} (h : k ≤ 1000000) : (Lit.int .i64 (k : Int)).wf = true := by
  have e1 : IntKind.i64.min = -9223372036854775808 := by decide
  have e2 : IntKind.i64.max = 9223372036854775807 := by decide
  show (decide (IntKind.i64.min ≤ (k : Int)) && decide ((k : Int) ≤ IntKind.i64.max)) = true
  rw [e1, e2, Bool.and_eq_true, decide_eq_true_eq, decide_eq_true_eq]
  omega
/-- What the loop over the signs keeps. -/
structure RsI (ss : List Sg) (N : Int) (b0 : Nat) (w1 : World) (k : Nat) (wr : World) : Prop where
  bel : Below (b0 + 1) w1 wr
  cm : wr.heap[b0 + 2]? = some (.cells #[.map (some (b0 + 1))] 80 (0, 0))
  own : ∃ D, Cods ss N k D ∧ wr.ownsMap Tryz.prog 9 (plainElem (H := Unit) Tryz.prog 3) (b0 + 1) k D
theorem RsI.next {ss : List Sg} {N : Int} {b0 k : Nat} {w1 wr w5 : World} {D : DataW Unit} {o : Obj} (h : RsI ss N b0 w1 k wr) (hD : Cods ss N (k + 1) D) (hz : b0 + 1 ≤ w1.heap.size) (hown : w5.ownsMap Tryz.prog 9 (plainElem (H := Unit) Tryz.prog 3) (b0 + 1) (k + 1) D) (hg : (wr.alloc o).grownBy w5 (some (b0 + 1))) : RsI ss N b0 w1 (k + 1) w5 := by
  have hlt := lt_of_block h.cm
  refine ⟨(h.bel.alloc (Nat.le_trans hz h.bel.size) o).grown hg (Nat.le_trans hz (Nat.le_trans h.bel.size (by simp))) (fun j hj => by cases hj; exact Nat.le_refl _), ?_, D, hD, hown⟩
  refine (hg.block _ (by simp; omega) (by intro e; injection e with e; omega)).trans ((Below.heap_alloc _ _ _ hlt).trans h.cm)
set_option maxRecDepth 100000 in
set_option maxHeartbeats 4000000 in
theorem res_any (P N : Int) (ss : List Sg) (ks : List Itm) (hl : ss.length ≤ 1000000) (hN : 0 < N) (hN2 : (ss.length : Int) ≤ N) (hcs : ∀ s ∈ ss, s.code.size ≤ 1000000) (A A2 : Option Addr) (c m c2 n1 : Nat) (w : World) (rs : Sgs w w.heap.size A ss) (hn1 : n1 ≤ w.heap.size)
    (hi : ItS N (fun b => n1 ≤ b ∧ b < w.heap.size) w (.slice A2 m c2) ks) (hm : m = ks.length) (hsz : szL ks ≤ 2000000) (hcl : codL 1000000 ks) :
    Calls Tryz.prog 15 #[.agg #[.int .i64 P, .slice A ss.length c], .slice A2 m c2] w fun e w' => ∃ r : Int, e = .returned (.int .i64 r) ∧ Hid (knownL (fun c => ∃ i : Nat, i < ss.length ∧ (sg ss i).code = c) ks → r < 0) ∧ Below n1 w w' ∧ ItS N (fun b => n1 ≤ b ∧ b < w'.heap.size) w' (.slice A2 m c2) ks := by
  have hmm := @run_makeMap Tryz.prog
  have hmf : ∀ (fn : Fn) (first cap : Array Value) (w : World), (Instr.makeFunc fn first cap).run Tryz.prog w = .ok (.func fn first cap) w := fun _ _ _ _ => rfl
  have hst : ∀ (m : Mode) (a : Addr) (fn : Fn) (first cap : Array Value) (w : World), (store a (.func fn first cap) m).run Tryz.prog w = stored Tryz.prog w a (.func fn first cap) m := fun m a fn first cap w => run_store _ w a _ m rfl
  obtain ⟨n, hn⟩ : ∃ n, n = ss.length := ⟨_, rfl⟩
  obtain ⟨w1, hw1⟩ : ∃ W, W = ((w.alloc (.cells #[.int .i64 P, .slice A n c] 24)).alloc (.map #[] 0)).alloc (.cells #[.map (some (w.heap.size + 1))] 80) := ⟨_, rfl⟩
  obtain ⟨b0, hb0⟩ : ∃ b, b = w.heap.size := ⟨_, rfl⟩
  have hb1 : Below w.heap.size w w1 := by rw [hw1]; exact (((Below.refl _ _).alloc (Nat.le_refl _) _).alloc (by simp) _).alloc (by simp; omega) _
  have hz1 : w1.heap.size = b0 + 3 := by rw [hw1, hb0]; simp
  have c1 : w1.cell? ⟨b0, 1, none⟩ = some (.slice A n c) := by rw [hw1, hb0]; exact cell_old (cell_old (cell_here rfl rfl))
  have hI1 : RsI ss N b0 w1 0 w1 := by
    refine ⟨Below.refl _ _, by rw [hw1, hb0]; exact nwB (by simp), .map [], Cods.nil ss hN, ?_⟩
    rw [hw1, hb0]
    have := (World.ownsMap_made (H := Unit) (w.alloc (.cells #[.int .i64 P, .slice A n c] 24)) Tryz.prog 9 (plainElem (H := Unit) Tryz.prog 3)).alloc (.cells #[.map (some (w.heap.size + 1))] 80)
    simpa using this
  rw [← hn] at hl hN2 ⊢
  have HW1 := hid hw1; have HB1 := hid hb1; have HZ1 := hid hz1; have HI1 := hid hI1; have HNN := hid hn; have HB0 := hid hb0; have HRS := hid rs; have HIT := hid hi; have HM := hid hm; have HSZ := hid hsz; have HCL := hid hcl; have HN2 := hid hN2; have HN1 := hid hn1; have HCS := hid hcs
  clear hw1 hb1 hz1 hI1 hn hb0 rs hi hm hsz hcl hN2 hn1 hcs hN
  go_enter Tryz.func15, Tryz.ntmps15
  go_upto_region 2 with (fail)
  simp only [Nat.add_assoc, Nat.reduceAdd]
  rw [← HW1.out, ← HB0.out]
  clear HW1
  go_wp2_with fail
  go_loopw [13] (fun kv wr => ∃ k : Nat, k ≤ n ∧ kv = .int .i64 k ∧ Hid (RsI ss N b0 w1 k wr)) (fun kv _ => n - (intOf kv).toNat)
  case atStart => exact ⟨0, by omega, rfl, HI1⟩
  case round =>
    obtain ⟨k, hk, rfl, hI⟩ := hrel
    by_cases hkn : k < n
    · have hkl : k < ss.length := by rw [← HNN.out]; exact hkn
      have hq : (k : Int) < (n : Int) := by omega
      obtain ⟨b1, o1, hA1, hb1, hcA⟩ := HRS.out.at (by omega)
      subst hA1
      have hbw : Below w.heap.size w wr := HB1.out.trans (hI.out.bel.mono (by rw [HB0.out]; omega))
      have hx := (hcA k hkl).below hbw hb1
      have d1 := hx.code; have d2 := hx.wide; have d3 := hx.high; have d4 := hx.even; have d5 := hx.vals
      have hsg := sg_at hkl
      obtain ⟨D, hD, hown⟩ := hI.out.own
      have hnext := hD.next (by have := HN2.out; omega)
      rw [hsg] at hnext
      have hcz := HCS.out (ss[k]'hkl) (List.getElem_mem hkl)
      generalize ss[k]'hkl = s at d1 d2 d3 d4 d5 hnext hcz
      obtain ⟨co, wi, hi, ev, vs, va, vc⟩ := s
      simp only [] at d1 d2 d3 d4 d5 hnext hcz
      have HKEY := hid (show keyOf Tryz.prog 9 (.string co) = some (.string co.data.toList) from WideMaps.keyOf_string_mk Tryz.underlying9 (by unfold maxLen; omega))
      have HNX := hid hnext
      have HOA := hid (hown.alloc (.cells #[.string co, .int .i64 wi, .int .i64 hi, .bool ev, .slice va vs.length vc] 47))
      have p5 : (wr.alloc (.cells #[.string co, .int .i64 wi, .int .i64 hi, .bool ev, .slice va vs.length vc] 47)).cell? ⟨b0 + 2, 0, none⟩ = some (.map (some (b0 + 1))) := cell_of_one ((Below.heap_alloc _ _ _ (lt_of_block hI.out.cm)).trans hI.out.cm)
      have hk9 : k < maxLen := by unfold maxLen; omega
      have HL := hid (lit64 (k := k) (by omega))
      clear hx hcA hsg hown hD hnext hcz hbw
      go_wp2_with (first | (at_mapUpdate; refine wpList_mapUpdate_own _ rfl _ _ _ 80 rfl 9 3 lawS Tryz.underlying80 _ (b0 + 1) k _ rfl HOA.out hk9 _ _ _ rfl rfl HKEY.out _ [] (plainElem_int Tryz.underlying3 HL.out) ?_; intro w5 hown5 hgrow5; have HI5 := hid (hI.out.next HNX.out (by have := HZ1.out; omega) hown5 hgrow5); clear hown5 hgrow5))
      go_roundw
      case rel => exact ⟨k + 1, by omega, by go_num, HI5⟩
      case measure => simp [intOf]; omega
    · obtain rfl : n = k := by omega
      obtain ⟨D, hD, hown⟩ := hI.out.own
      have HD := hid hD; have HO := hid hown
      clear hD hown
      obtain ⟨bv, hbv⟩ : ∃ b, b = wr.heap.size := ⟨_, rfl⟩
      obtain ⟨w5, hw5⟩ : ∃ W, W = wr.alloc (.cells #[.func (.func 29) #[] #[.pointer (some ⟨b0 + 2, 0, none⟩), .pointer (some ⟨bv, 0, none⟩)]] 90) := ⟨_, rfl⟩
      have hlm := lt_of_block hI.out.cm
      have hbw : Below w.heap.size w wr := HB1.out.trans (hI.out.bel.mono (by rw [HB0.out]; omega))
      have hb5 : Below w.heap.size w w5 := by rw [hw5]; exact hbw.alloc hbw.size _
      have hE : VEnv N (b0 + 2) bv (b0 + 1) n D w5 := by
        rw [hw5]
        exact ⟨(Below.heap_alloc _ _ _ hlm).trans hI.out.cm, nwB hbv, HO.out.alloc _⟩
      have hI5 : ItS N (VQ n1 (b0 + 2) bv (b0 + 1)) w5 (.slice A2 m c2) ks := HIT.out.keep (fun b hb => ⟨hb.1, by have := HB0.out; omega, by have := HB0.out; omega, by have := HB0.out; omega⟩) (fun b hb => hb5.block b hb.2)
      have HCA := hid (vis_any N n1 (b0 + 2) bv (b0 + 1) n D ss HD.out ks A2 m c2 w5 hE hI5 HM.out HSZ.out HCL.out)
      have HW5 := hid hw5; have HBV := hid hbv; have HB5 := hid hb5; have HI5 := hid hI5
      clear hw5 hbv hb5 hI5 hE hlm hbw
      go_upto_region 9 with (fail)
      rw [← HBV.out, ← HW5.out]
      have p9 : w5.cell? ⟨bv, 0, none⟩ = some (.func (.func 29) #[] #[.pointer (some ⟨b0 + 2, 0, none⟩), .pointer (some ⟨bv, 0, none⟩)]) := by rw [HW5.out, HBV.out]; exact cell_here rfl rfl
      clear HW5
      go_wp2_with fail
      refine HCA.out.mono ?_
      rintro e w7 ⟨r, rfl, hr7, k7, a7⟩
      have HR := hid (show knownL (fun c => ∃ i : Nat, i < n ∧ (sg ss i).code = c) ks → r < 0 from fun h => hr7.out (h.mono fun co ⟨i, hi, e⟩ => by rw [← e]; exact HD.out.has i hi))
      have HB7 := hid (show Below n1 w w7 from by
        have h5 := HB5.out
        exact ⟨k7.os.trans h5.os, k7.tape.trans h5.tape, k7.output.trans h5.output, Nat.le_trans h5.size k7.size, fun b hb => (k7.block b (.inl hb)).trans (h5.block b (by have := HN1.out; omega))⟩)
      have HI7 := hid (show ItS N (fun b => n1 ≤ b ∧ b < w7.heap.size) w7 (.slice A2 m c2) ks from ((a7 _ _ HI5.out).lt).keep (fun b hb => ⟨hb.1.1, hb.2⟩) (fun _ _ => rfl))
      clear hr7 k7 a7 HCA
      go_wp2_with fail
      go_ret
      exact ⟨r, rfl, HR, HB7.out, HI7.out⟩
end Go.Proofs.YtimblabaeclhpaaGreat
