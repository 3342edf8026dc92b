/- signs.Check: the map of the codes that were seen. -/
import Derived.Test.YtaoddenadfmdbaaSgn6
import Derived.Maps.OwnOps
import Derived.Maps.Views
import Derived.StringKeys
import Derived.Laws.Strings
import Derived.Outline
import Derived.Carry
namespace Go.Proofs.Ytaoddenadfmdbaa
open Go.RowKit Go.Maps
theorem lawS : Keyed Try.prog 9 := string_keyed Try.underlying9
theorem zeroI (w : World) : (zeroValue 3).run Try.prog w = .ok (.int .i64 0) w := by kernel_rfl
/-- What the map holds behind k signs, whose codes are all different. -/
structure Seen (l : List Sg) (k : Nat) (D : DataW Unit) : Prop where
  map : Maps.IsMap D
  at_ : ∀ t : ByteArray, D.atKey (.string t.data.toList) (.lit (.int .i64 0)) = .lit (.int .i64 (if idxTo (sameC l t) k = -1 then 0 else 1))
theorem Seen.nil (l : List Sg) : Seen l 0 (.map []) := ⟨⟨_, rfl⟩, fun _ => rfl⟩
theorem Seen.get {l : List Sg} {k : Nat} {D : DataW Unit} (h : Seen l k D) {b : Bool} (hb : seenB l k = b) {c : Int} (hc : D.atKey (.string (sg l k).code.data.toList) (.lit (.int .i64 0)) = .lit (.int .i64 c)) : c = if b = true then 1 else 0 := by
  rw [h.at_] at hc
  injection hc with hc
  injection hc with _ hc
  rw [← hc, ← hb]
  unfold seenB
  by_cases h1 : idxTo (sameC l (sg l k).code) k = -1 <;> simp [h1]
theorem Seen.next {l : List Sg} {k : Nat} {D : DataW Unit} (h : Seen l k D) (hb : seenB l k = false) : Seen l (k + 1) (D.put (.string (sg l k).code.data.toList) (.lit (.int .i64 1))) := by
  have hnew : idxTo (sameC l (sg l k).code) k = -1 := by
    unfold seenB at hb
    simpa using hb
  refine ⟨?_, fun t => ?_⟩
  · obtain ⟨es, rfl⟩ := h.map
    exact ⟨_, rfl⟩
  · by_cases e : t.data.toList = (sg l k).code.data.toList
    · obtain rfl := WideShapes.bytes_inj e
      rw [atKey_put_same h.map (by trivial)]
      have : idxTo (sameC l (sg l k).code) (k + 1) = k := idxTo_at hnew (by unfold sameC; simp) _ (by omega)
      rw [this, if_neg (by omega)]
    · rw [atKey_put_other (by intro h2; injection h2 with h2; exact e h2), h.at_]
      have hs : sameC l t k = false := by
        unfold sameC
        rw [beq_eq_false_iff_ne]
        intro h2
        rw [ByteArray.toList_eq, ByteArray.toList_eq] at h2
        exact e h2.symm
      have e2 : idxTo (sameC l t) (k + 1) = idxTo (sameC l t) k := by
        rw [idxTo, hs]
        by_cases h1 : idxTo (sameC l t) k = -1 <;> simp [h1]
      rw [e2]
theorem flatV_take (l : List Vl) (i : Nat) : ∀ (j : Nat) (u : Value), (flatV (l.take i))[j]? = some u → (flatV l)[j]? = some u := by
  intro j u h
  have e : flatV l = flatV (l.take i) ++ flatV (l.drop i) := by unfold flatV; rw [← List.flatMap_append, List.take_append_drop]
  rw [e, List.getElem?_append_left (List.getElem?_eq_some_iff.1 h).1]
  exact h
theorem Vls.take {w : World} {B : Nat} {A : Option Addr} {l : List Vl} (h : Vls w B A l) (i : Nat) : Vls w B A (l.take i) := by
  refine ⟨flatV_len _, fun hn => ?_⟩
  obtain ⟨ad, e, hb, hc⟩ := h.2 (by rw [List.length_take] at hn; omega)
  exact ⟨ad, e, hb, fun j u hu => hc j u (flatV_take l i j u hu)⟩
/-- A sign that lies in new memory, behind a store into a map. -/
structure SgC (w : World) (b : Nat) (code : ByteArray) (wide high : Int) (even : Bool) (va : Option Addr) (nv vc : Nat) : Prop where
  code : w.cell? ⟨b, 0, none⟩ = some (.string code)
  wide : w.cell? ⟨b, 1, none⟩ = some (.int .i64 wide)
  high : w.cell? ⟨b, 2, none⟩ = some (.int .i64 high)
  even : w.cell? ⟨b, 3, none⟩ = some (.bool even)
  vals : w.cell? ⟨b, 4, none⟩ = some (.slice va nv vc)
theorem sg_new {wr w5 : World} {T : TypeId} {b : Nat} {co : ByteArray} {wi hi : Int} {ev : Bool} {va : Option Addr} {nv vc : Nat} (hg : (wr.alloc (.cells #[.string co, .int .i64 wi, .int .i64 hi, .bool ev, .slice va nv vc] T)).grownBy w5 (some b)) (hb : b < wr.heap.size) : SgC w5 wr.heap.size co wi hi ev va nv vc := by
  have hne : ∀ o, some (⟨wr.heap.size, o, none⟩ : Addr).block ≠ some b := fun o h => by injection h with h; simp at h; omega
  refine ⟨?_, ?_, ?_, ?_, ?_⟩ <;> exact hg.cell (by simp) (hne _)
set_option maxRecDepth 100000 in
set_option maxHeartbeats 4000000 in
theorem listCheck_any (P : Int) (l : List Sg) (hl : l.length ≤ 1000000) (hv : ∀ s ∈ l, s.vals.length ≤ 1000000 ∧ s.vals.length ≤ s.vc) (A : Option Addr) (c : Nat) (w : World) (r : Sgs w w.heap.size A l) :
    Calls Try.prog 49 #[.agg #[.int .i64 P, .slice A l.length c]] w fun e w' => e = .returned (.int .i64 (listE P l)) ∧ Below w.heap.size w w' := by
  obtain ⟨w1, hw1⟩ : ∃ w1, w1 = (w.alloc (.cells #[.int .i64 P, .slice A l.length c] 24)).alloc (.map #[] 0) := ⟨_, rfl⟩
  have hb1 : Below w.heap.size w w1 := by rw [hw1]; exact ((Below.refl _ _).alloc (Nat.le_refl _) _).alloc (by simp) _
  have hz1 : w1.heap.size = w.heap.size + 2 := by rw [hw1]; simp
  have c0 : w1.cell? ⟨w.heap.size, 0, none⟩ = some (.int .i64 P) := by rw [hw1]; simp
  have c1 : w1.cell? ⟨w.heap.size, 1, none⟩ = some (.slice A l.length c) := by rw [hw1]; simp
  have hm1 : w1.ownsMap Try.prog 9 (plainElem (H := Unit) Try.prog 3) (w.heap.size + 1) 0 (.map []) := by
    rw [hw1]
    have := World.ownsMap_made (H := Unit) (w.alloc (.cells #[.int .i64 P, .slice A l.length c] 24)) Try.prog 9 (plainElem (H := Unit) Try.prog 3)
    simpa using this
  have r1 : Sgs w1 w.heap.size A l := r.below hb1
  obtain ⟨n, hn⟩ : ∃ n, n = l.length := ⟨_, rfl⟩
  obtain ⟨E, hE⟩ : ∃ E, E = listE P l := ⟨_, rfl⟩
  rw [← hE]
  have m1 := listE_many (P := P) (l := l); have m2 := listE_per (P := P) (l := l); have m3 := listE_rest (P := P) (l := l)
  rw [← hE, ← hn] at m1 m2 m3
  rw [← hn] at hl c1 hw1 ⊢
  have HW1 := hid hw1; have HB1 := hid hb1; have HR := hid r1; have HN := hid hn; have HZ1 := hid hz1; have HV := hid hv; have HM1 := hid hm1
  have M1 := hid m1; have M2 := hid m2; have M3 := hid m3
  have HBW : Hid (Below w.heap.size w (w.alloc (.cells #[.int .i64 P, .slice A n c] 24))) := (Below.refl _ _).alloc (Nat.le_refl _) _
  clear hw1 hb1 r r1 hn hE hz1 hv m1 m2 m3 hm1
  have hmm := @run_makeMap Try.prog
  go_enter Try.func49, Try.ntmps49
  go_wp2_with fail
  all_goals try (go_ret; exact ⟨congrArg (fun x => Ending.returned (.int .i64 x)) (by first | exact (M1.out (by omega)).symm | exact (M2.out (by omega) (by omega)).symm), HBW.out⟩)
  have HE := hid (M3.out (by omega) (by omega))
  rw [← HW1.out]
  clear M1 M2 M3 HBW HW1
  have HC0 := hid fun (wr : World) (h : Below (w.heap.size + 1) w1 wr) => (h.cell (p := ⟨w.heap.size, 0, none⟩) (by simp)).trans c0
  have HC1 := hid fun (wr : World) (h : Below (w.heap.size + 1) w1 wr) => (h.cell (p := ⟨w.heap.size, 1, none⟩) (by simp)).trans c1
  have HZ2 : Hid (w.heap.size + 2 ≤ w1.heap.size) := by rw [HZ1.out]; exact Nat.le_refl _
  clear c0 c1 HZ1
  obtain ⟨B0, hB0⟩ : ∃ B0, B0 = w.heap.size := ⟨_, rfl⟩
  have HW : Hid (∀ wr, Below (B0 + 1) w1 wr → Below w.heap.size w wr) := fun wr h => HB1.out.trans (h.mono (by omega))
  rw [← hB0] at HC0 HC1 HM1 HZ2 HR ⊢
  clear hB0 HB1
  go_loopw [25] (fun kv wr => ∃ k : Nat, k ≤ n ∧ kv = .int .i64 k ∧ Hid (firstE (sgnE P l) k = 0) ∧ Hid (Below (B0 + 1) w1 wr) ∧ Hid (∃ D, Seen l k D ∧ wr.ownsMap Try.prog 9 (plainElem (H := Unit) Try.prog 3) (B0 + 1) k D)) (fun kv _ => n - (intOf kv).toNat)
  case atStart => exact ⟨0, by omega, rfl, hid rfl, hid (Below.refl _ _), hid ⟨_, Seen.nil l, HM1.out⟩⟩
  case round =>
    obtain ⟨k, hk, rfl, hF, hB, hM⟩ := hrel
    have cc0 := HC0.out wr hB.out
    have cc1 := HC1.out wr hB.out
    by_cases hkn : k < n
    · have hkl : k < l.length := by rw [← HN.out]; exact hkn
      have hmem : l[k]'hkl ∈ l := List.getElem_mem hkl
      have hq : (k : Int) < (n : Int) := by omega
      obtain ⟨b1, o1, hA1, hb1, hcA⟩ := HR.out.at (by omega)
      subst hA1
      have hx := (hcA k hkl).below hB.out (by omega)
      have d1 := hx.code; have d2 := hx.wide; have d3 := hx.high; have d4 := hx.even; have d5 := hx.vals
      have hsg := sg_at hkl
      have hsE : sgnE P l k = if codeB (l[k]'hkl).code = true ∧ seenB l k = false then sgE P (l[k]'hkl) else 10 := by unfold sgnE; rw [hsg]
      have hbad : sgnE P l k ≠ 0 → E = sgnE P l k := fun h => by rw [HE.out, HN.out]; exact firstE_at hF.out h _ hkl
      have hgood : sgnE P l k = 0 → firstE (sgnE P l) (k + 1) = 0 := fun h => firstE_s hF.out h
      rw [hsE] at hbad hgood
      obtain ⟨D, hD, hown⟩ := hM.out
      have hget := fun b (hb : seenB l k = b) c => hD.get (b := b) hb (c := c)
      have hnext := hD.next
      rw [hsg] at hget hnext
      have hvl := HR.out.vls _ hmem
      have hvv := HV.out _ hmem
      have hvc := fun W => validCode_any (l[k]'hkl).code W
      have hcs : codeB (l[k]'hkl).code = true → (l[k]'hkl).code.size ≤ maxLen := fun h => by
        unfold codeB at h
        simp only [Bool.and_eq_true, decide_eq_true_eq] at h
        unfold maxLen
        omega
      generalize hsb : seenB l k = sb at hbad hgood hnext hget
      have hget := hget sb rfl
      obtain ⟨es, hes⟩ : ∃ es, es = sgE P (l[k]'hkl) := ⟨_, rfl⟩
      rw [← hes] at hbad hgood
      generalize codeB (l[k]'hkl).code = cb at hbad hgood hvc hcs
      generalize l[k]'hkl = s at d1 d2 d3 d4 d5 hvl hvv hvc hcs hes hget hnext
      clear hsE hsg hmem hx hcA hsb hD hF
      obtain ⟨co, wi, hi, ev, vs, va, vc⟩ := s
      simp only [] at d1 d2 d3 d4 d5 hvl hvv hvc hcs hget hnext
      have HBAD := hid hbad; have HGOOD := hid hgood; have HVC := hid hvc; have HGET := hid hget; have HNEXT := hid hnext; have HES := hid hes; have HVL := hid hvl
      have HVV := hid hvv
      clear hbad hgood hvc hget hnext hes hvl hvv
      cases cb with
      | false =>
        have HX := hid (HBAD.out (by simp))
        go_wp2_with (first | (go_at_call 64; refine (HVC.out _).mono ?_; rintro e w3 ⟨rfl, rfl⟩))
        go_ret
        exact ⟨congrArg (fun x => Ending.returned (.int .i64 x)) (by rw [HX.out]; simp), HW.out _ (hB.out.alloc (by have := HZ2.out; have := hB.out.size; omega) _)⟩
      | true =>
        have hkey : keyOf Try.prog 9 (.string co) = some (.string co.data.toList) := WideMaps.keyOf_string_mk Try.underlying9 (hcs rfl)
        have HKEY := hid hkey
        clear hkey hcs
        obtain ⟨c5, hrun, hat, _⟩ := (hown.alloc (.cells #[.string co, .int .i64 wi, .int .i64 hi, .bool ev, .slice va vs.length vc] 56)).lookup_int (t := 101) lawS Try.underlying101 Try.underlying3 (zeroI _) HKEY.out
        obtain rfl : c5 = if sb = true then 1 else 0 := HGET.out c5 hat
        clear hat HGET
        cases sb with
        | true =>
          simp only [if_true] at hrun
          have HX := hid (HBAD.out (by simp))
          go_wp2_with (first | (go_at_call 64; refine (HVC.out _).mono ?_; rintro e w3 ⟨rfl, rfl⟩))
          go_ret
          exact ⟨congrArg (fun x => Ending.returned (.int .i64 x)) (by rw [HX.out]; simp), HW.out _ (hB.out.alloc (by have := HZ2.out; have := hB.out.size; omega) _)⟩
        | false =>
          simp only [Bool.false_eq_true, if_false] at hrun
          have hbad2 : es ≠ 0 → E = es := fun h => (HBAD.out (by simpa using h)).trans (if_pos ⟨rfl, rfl⟩)
          have hgood2 : es = 0 → firstE (sgnE P l) (k + 1) = 0 := fun h => HGOOD.out (by simpa using h)
          have m11 : ¬ ((1 ≤ wi ∧ wi ≤ 12) ∧ 1 ≤ hi ∧ hi ≤ 12) → E = 11 := fun h => by
            have : es = 11 := by rw [HES.out]; exact if_pos h
            rw [hbad2 (by omega), this]
          have m12 : ((1 ≤ wi ∧ wi ≤ 12) ∧ 1 ≤ hi ∧ hi ≤ 12) → 12 < vs.length → E = 2 := fun h h2 => by
            have : es = 2 := by rw [HES.out]; unfold sgE; rw [if_neg (fun h3 => h3 h)]; exact if_pos h2
            rw [hbad2 (by omega), this]
          have m13 : ((1 ≤ wi ∧ wi ≤ 12) ∧ 1 ≤ hi ∧ hi ≤ 12) → ¬ 12 < vs.length → es = valsE P vs := fun h h2 => by
            rw [HES.out]; unfold sgE; rw [if_neg (fun h3 => h3 h)]; exact if_neg h2
          have HSEEN := hid (HNEXT.out (by simp))
          have hz0 := hB.out.size
          have hzB : B0 + 2 ≤ wr.heap.size := by have := HZ2.out; omega
          have hba := hB.out.alloc (show B0 + 1 ≤ wr.heap.size by omega) (.cells #[.string co, .int .i64 wi, .int .i64 hi, .bool ev, .slice va vs.length vc] 56)
          obtain ⟨nv, hnv⟩ : ∃ nv, nv = vs.length := ⟨_, rfl⟩
          rw [← hnv] at m12 m13 d5 hrun hba
          have HNV := hid hnv
          have HOA := hid (hown.alloc (.cells #[.string co, .int .i64 wi, .int .i64 hi, .bool ev, .slice va nv vc] 56))
          have hvv := HVV.out
          rw [← hnv] at hvv
          obtain ⟨hnv1, hnv2⟩ := hvv
          have HG2 := hid hgood2; have HB2 := hid hbad2; have M11 := hid m11; have M12 := hid m12; have M13 := hid m13; have HBA := hid hba
          have HSZ : Hid (wr.heap.size < (wr.alloc (.cells #[.string co, .int .i64 wi, .int .i64 hi, .bool ev, .slice va nv vc] 56)).heap.size) := by show _ < _; simp
          have HC5 := hid fun (w5 : World) (hg : (wr.alloc (.cells #[.string co, .int .i64 wi, .int .i64 hi, .bool ev, .slice va nv vc] 56)).grownBy w5 (some (B0 + 1))) => sg_new hg (by omega)
          clear hbad2 hgood2 m11 m12 m13 HBAD HGOOD HES hget hM hz0 hba hnv HVV hown HNEXT
          go_wp2_with (first | (go_at_call 64; refine (HVC.out _).mono ?_; rintro e w3 ⟨rfl, rfl⟩) | (at_mapUpdate; refine wpList_mapUpdate_own _ rfl _ _ _ 101 rfl 9 3 lawS Try.underlying101 _ (B0 + 1) k _ rfl HOA.out (by unfold maxLen; omega) _ _ _ rfl rfl HKEY.out _ [] (plainElem_int Try.underlying3 (by decide)) ?_; intro w5 hown5 hgrow5; obtain ⟨e1, e2, e3, e4, e5⟩ := HC5.out w5 hgrow5; have HO5 := hid hown5; have HB5 := hid (HBA.out.grown hgrow5 (Nat.le_trans (Nat.le_trans (Nat.le_succ _) HZ2.out) HBA.out.size) (fun j hj => by cases hj; exact Nat.le_refl _)); have hlt5 := Nat.lt_of_lt_of_le HSZ.out hgrow5.size; clear hown5 hgrow5 hrun HC5 HOA HBA d1 d2 d3 d4 d5))
          all_goals try (go_ret; exact ⟨congrArg (fun x => Ending.returned (.int .i64 x)) (by first | exact (M11.out (by omega)).symm | exact (M12.out (by omega) (by omega)).symm), HW.out _ HB5.out⟩)
          have HE3 := hid (M13.out (by omega) (by omega))
          have hsz5 : B0 + 2 ≤ w5.heap.size := Nat.le_trans HZ2.out HB5.out.size
          clear M11 M12 M13 HVC HKEY
          have HC0 := hid (HC0.out w5 HB5.out); have HC1 := hid (HC1.out w5 HB5.out)
          have HV5 := hid ((HVL.out.below (HB5.out.mono (by omega))).more (show B0 ≤ w5.heap.size by omega))
          clear cc0 cc1 HVL
          obtain ⟨B5, hB5⟩ : ∃ B5, B5 = wr.heap.size := ⟨_, rfl⟩
          rw [← hB5] at e1 e2 e3 e4 e5 hlt5 ⊢
          clear hB5 hzB HSZ
          clear e1 e2 e3 e4
          go_loopw [70] (fun iv w7 => ∃ i : Nat, i ≤ nv ∧ iv = .int .i64 i ∧ Hid (firstE (fun j => valE P (vs.take j) (vl vs j)) i = 0) ∧ Hid (Below w5.heap.size w5 w7)) (fun iv _ => nv - (intOf iv).toNat)
          case atStart => exact ⟨0, by omega, rfl, hid rfl, hid (Below.refl _ _)⟩
          case round =>
            obtain ⟨i, hi7, rfl, hF7, hB7⟩ := hrel
            by_cases hin : i < nv
            · have hil : i < vs.length := by rw [← HNV.out]; exact hin
              have hqi : (i : Int) < (nv : Int) := by omega
              obtain ⟨b2, o2, hA2, hb2, hcV⟩ := HV5.out.at (by omega)
              subst hA2
              have hx := (hcV i hil).below hB7.out hb2
              have d1 := hx.kind; have d2 := hx.text; have d3 := hx.frm; have d4 := hx.to
              obtain ⟨E2, hE2⟩ : ∃ E2, E2 = valE P (vs.take i) (vs[i]'hil) := ⟨_, rfl⟩
              have hfk : valE P (vs.take i) (vl vs i) = E2 := by rw [vl_at hil, hE2]
              have hbad : E2 ≠ 0 → es = E2 := fun h => by
                rw [HE3.out]
                unfold valsE
                rw [firstE_at (f := fun j => valE P (vs.take j) (vl vs j)) hF7.out (by show valE P (vs.take i) (vl vs i) ≠ 0; rw [hfk]; exact h) _ hil]
                exact hfk
              have hgood : E2 = 0 → firstE (fun j => valE P (vs.take j) (vl vs j)) (i + 1) = 0 := fun h => firstE_s hF7.out (by show valE P (vs.take i) (vl vs i) = 0; rw [hfk]; exact h)
              have hlen : (vs.take i).length = i := by rw [List.length_take]; omega
              have hck := fun (v : Vl) (W : World) (h : Below w5.heap.size w5 W) => checkValue_any P (.slice (some ⟨b1, o1, none⟩) n c) (vs.take i) v (some ⟨b2, o2, none⟩) vc (by rw [hlen]; omega) W (((HV5.out.take i).below h).more h.size)
              rw [hlen] at hck
              have hck := hck (vs[i]'hil)
              rw [← hE2] at hck
              generalize vs[i]'hil = v at d1 d2 d3 d4 hck hE2
              obtain ⟨vk, vt, vf, vo⟩ := v
              simp only [] at d1 d2 d3 d4 hck
              have HBAD := hid hbad; have HGOOD := hid hgood; have HCK := hid hck
              have hqc : (i : Int) ≤ (vc : Int) := by omega
              clear hx hcV hE2 hfk hbad hgood hlen hck hF7
              go_wp2_with fail
              obtain ⟨wb, hwb⟩ : ∃ wb, wb = wr.alloc (.cells #[.int .i64 vk, .string vt, .int .i64 vf, .int .i64 vo] 86) := ⟨_, rfl⟩
              have hbw : Below w5.heap.size w5 wb := by rw [hwb]; exact hB7.out.alloc hB7.out.size _
              have hzw : wr.heap.size < wb.heap.size := by rw [hwb]; simp
              have hva : VlAt wb wr.heap.size 0 ⟨vk, vt, vf, vo⟩ := by rw [hwb]; refine ⟨?_, ?_, ?_, ?_⟩ <;> simp
              rw [← hwb]
              have hbz : ∀ z : BW wb.heap.size wb, Below w5.heap.size w5 z.val := fun z => hbw.trans (z.ok.mono hbw.size)
              have hvz := fun z : BW wb.heap.size wb => hva.below z.ok hzw
              have d1 := fun z => (hvz z).kind; have d2 := fun z => (hvz z).text; have d3 := fun z => (hvz z).frm; have d4 := fun z => (hvz z).to
              simp only [] at d1 d2 d3 d4
              have cz0 := fun z : BW wb.heap.size wb => ((hbz z).cell (p := ⟨B0, 0, none⟩) (by show B0 < _; omega)).trans HC0.out
              have cz1 := fun z : BW wb.heap.size wb => ((hbz z).cell (p := ⟨B0, 1, none⟩) (by show B0 < _; omega)).trans HC1.out
              have cz5 := fun z : BW wb.heap.size wb => ((hbz z).cell (p := ⟨B5, 4, none⟩) hlt5).trans e5
              have HCZ := hid (below_class (n0 := wb.heap.size) (wb := wb) (Nat.le_refl _) (fun z => HCK.out z.val (hbz z)))
              have HBZ := hid hbz
              have HB := hid (Below.refl wb.heap.size wb)
              obtain ⟨B7, hB7x⟩ : ∃ B7, B7 = wr.heap.size := ⟨_, rfl⟩
              rw [← hB7x] at d1 d2 d3 d4 ⊢
              clear hvz hbz hva hzw hbw hwb HCK hB7x
              refine region_below (by kernel_rfl) (by kernel_rfl) HB.out ?_
              repeat (go_big_quiet_step ((go_at_call 65; go_must (exact (HCZ.out _)))))
              refine wpQuiet_nil ?_
              intro _ hw'
              obtain ⟨z, rfl⟩ := hw'
              have HZ := hid (HBZ.out z)
              clear d1 d2 d3 d4 cz0 cz1 cz5 HB HBZ HCZ
              by_cases h0 : E2 = 0
              · have HY := hid (HGOOD.out h0)
                have f0 : (E2 != 0) = false := by simp [h0]
                clear h0 HBAD HGOOD
                go_wp2_with fail
                go_roundw
                case rel => exact ⟨i + 1, by omega, by go_num, HY.out, HZ.out⟩
                case measure => simp [intOf]; omega
              · have HY := hid (HBAD.out h0)
                have HY2 := hid (HB2.out (by rw [HY.out]; exact h0))
                have f0 : (E2 != 0) = true := by simp [h0]
                have HZ6 : Hid (Below (B0 + 1) w1 z.val) := HB5.out.trans (HZ.out.mono (by omega))
                clear h0 HBAD HGOOD
                go_wp2_with fail
                go_ret
                exact ⟨congrArg (fun x => Ending.returned (.int .i64 x)) (by rw [HY2.out, HY.out]), HW.out _ HZ6.out⟩
            · obtain rfl : nv = i := by omega
              have HX : Hid (es = 0) := by
                rw [HE3.out]
                unfold valsE
                rw [← HNV.out]
                exact hF7.out
              have HNX := hid (HG2.out HX.out)
              have HB6 : Hid (Below (B0 + 1) w1 wr) := HB5.out.trans (hB7.out.mono (by omega))
              have HM6 : Hid (∃ D, Seen l (k + 1) D ∧ wr.ownsMap Try.prog 9 (plainElem (H := Unit) Try.prog 3) (B0 + 1) (k + 1) D) := ⟨_, HSEEN.out, HO5.out.kept (grown_of_below hB7.out) (by simp)⟩
              clear hF7 HX HG2 HB2 HSEEN HO5
              go_wp2_with fail
              go_roundw
              case rel => exact ⟨k + 1, by omega, by go_num, HNX.out, HB6.out, HM6.out⟩
              case measure => simp [intOf]; omega
    · obtain rfl : n = k := by omega
      have HX := hid (HE.out.trans hF.out)
      clear hF HE
      go_wp2_with fail
      go_ret
      exact ⟨congrArg (fun x => Ending.returned (.int .i64 x)) HX.out.symm, HW.out _ hB.out⟩
end Go.Proofs.Ytaoddenadfmdbaa
