/- WALK: the pairs of boxes that cross, on both sides (printed by gen_crossingw.py). -/
import Derived.Test.YtfkcpcdndleboaaCrossW
namespace Go.Proofs.Ytfkcpcdndleboaa
open Go.RowKit
def prC (q : Nat × Nat) : List Value := [.int .i64 q.1, .int .i64 q.2]
def flatP (L : List (Nat × Nat)) : List Value := L.flatMap prC
theorem flatP_app (L M : List (Nat × Nat)) : flatP (L ++ M) = flatP L ++ flatP M := List.flatMap_append ..
theorem flatP_one (s : Nat × Nat) : flatP [s] = prC s := by unfold flatP; simp
def crRow (L : List Bxv) (i m : Nat) : List (Nat × Nat) := ((List.range m).filter fun k => decide (i < k) && crB (L.getD i bx0) (L.getD k bx0)).map fun k => (i, k)
def crJ (L : List Bxv) (j : Nat) : List (Nat × Nat) := (List.range j).flatMap fun i => crRow L i L.length
noncomputable def crP (L : List Bxv) : List (Nat × Nat) := if chB L = 0 then crJ L L.length else []
theorem getD_at {L : List Bxv} {i : Nat} (h : i < L.length) : L.getD i bx0 = L[i] := by rw [List.getD_eq_getElem?_getD, List.getElem?_eq_getElem h]; rfl
theorem crRow_0 {L : List Bxv} {i m : Nat} (h : m ≤ i + 1) : crRow L i m = [] := by
  unfold crRow
  rw [List.filter_eq_nil_iff.2, List.map_nil]
  intro k hk
  have := List.mem_range.1 hk
  simp only [Bool.and_eq_true, decide_eq_true_eq, not_and]
  omega
theorem crRow_s {L : List Bxv} {i k : Nat} (h : i < k) (hk : k < L.length) : crRow L i (k + 1) = crRow L i k ++ if crB (L[i]'(by omega)) L[k] = true then [(i, k)] else [] := by
  unfold crRow
  rw [List.range_succ, List.filter_append, List.map_append, List.filter_cons, List.filter_nil, getD_at (show i < L.length by omega), getD_at hk, decide_eq_true h, Bool.true_and]
  split <;> rfl
theorem crJ_s {L : List Bxv} {j : Nat} : crJ L (j + 1) = crJ L j ++ crRow L j L.length := by
  unfold crJ
  rw [List.range_succ, List.flatMap_append, List.flatMap_cons, List.flatMap_nil, List.append_nil]
theorem crRow_len {L : List Bxv} {i m : Nat} : (crRow L i m).length ≤ m := by
  unfold crRow
  rw [List.length_map]
  have := List.length_filter_le (fun k => decide (i < k) && crB (L.getD i bx0) (L.getD k bx0)) (List.range m)
  rw [List.length_range] at this
  exact this
theorem crJ_len {L : List Bxv} : ∀ j, (crJ L j).length ≤ j * L.length
  | 0 => by simp [crJ]
  | j + 1 => by
    have h1 := crJ_len (L := L) j
    have h2 := crRow_len (L := L) (i := j) (m := L.length)
    rw [crJ_s, List.length_append, Nat.succ_mul]
    omega
theorem quiet_load_bx {P : Program} {ops : Array Oper} {C : World → Prop} {Q : Act → Prop} {rest : List Oper} {o : Oper} {a : Act} (hgd : o.guard = none) (ty : TypeId) (x : Operand) (ho : o.op = .load ty x) (b of : Nat) (cs : List Value) (d : TypeDesc) (hx : a.eval x = .pointer (some ⟨b, of, none⟩)) (hr : ∀ w, C w → w.rangeAt b of cs)
    (hu : P.underlying ty = some d) (hd : d.isRow = true) (hi : (P.info? ty).map (·.size) = some cs.length) (h : wpQuiet P ops C Q rest (a.put o.dst (.agg cs.toArray))) : wpQuiet P ops C Q (o :: rest) a := by
  unfold wpQuiet
  rw [if_pos (by simp [Region.wanted, hgd])]
  refine ⟨.agg cs.toArray, fun w hw => ?_, h⟩
  unfold Oper.quietAt execOp
  simp only [ho, hx, Instr.loadAt, Instr.sureAddr, Sem.run_bind, Sem.run_pure, Result.andThen_ok, run_loadVar_mid w b of ty cs d (hr w hw) hu hd hi, Oper.quietUpon, and_self]
def CrsPost (L : List Bxv) (w : World) (e : Ending) (w' : World) : Prop :=
  ∃ v, e = .returned (.tuple #[v, .int .i64 (chB L)]) ∧ w'.ownsRow w.heap.size 84 2 v (crP L).length (flatP (crP L)) ∧ Below w.heap.size w w'
theorem Try.infoPair : (Try.prog.info? 84).map (fun i => (i.zero, i.size, i.bytes)) = some (some (.agg #[.int .i64 0, .int .i64 0]), 2, 16) := by kernel_rfl
theorem Try.underPairs : Try.prog.underlying 80 = some (.slice 84) := by kernel_rfl
set_option maxRecDepth 100000 in
set_option maxHeartbeats 8000000 in
theorem crossing_any (L : List Bxv) (A : Option Addr) (c : Nat) (hn : L.length ≤ 1000000) (w : World) (r : Bxs w w.heap.size A L) :
    Calls Try.prog 41 #[.slice A L.length c] w (CrsPost L w) := by
  have HCK := hid (boxCheck_any L A c hn w r)
  have hzr := chB_zero (L := L)
  have hLE : chB L ≠ 0 → crP L = [] := fun h => if_neg h
  have hLK : chB L = 0 → crP L = crJ L L.length := fun h => if_pos h
  have HPO := hid fun (e : Ending) (w' : World) (v : Value) (h1 : e = Ending.returned (.tuple #[v, .int .i64 (chB L)])) (h2 : w'.ownsRow w.heap.size 84 2 v (crP L).length (flatP (crP L))) (h3 : Below w.heap.size w w') => (show CrsPost L w e w' from ⟨v, h1, h2, h3⟩)
  have HAT := hid fun (hl : 0 < L.length) => r.at hl
  have HCR := hid fun (a b : Bxv) (ha : a.placed) (hb : b.placed) (W : World) => cross_any a b ha hb W
  obtain ⟨Q, hQ⟩ : ∃ Q, Q = CrsPost L w := ⟨_, rfl⟩
  have hQe : ∀ e w', CrsPost L w e w' = Q e w' := fun e w' => by rw [hQ]
  simp only [hQe] at HPO
  rw [← hQ]
  clear hQe hQ
  obtain ⟨n, hnn⟩ : ∃ n, n = L.length := ⟨_, rfl⟩
  rw [← hnn] at hn HCK hLK ⊢
  have HN := hid hnn
  clear r hnn
  by_cases hc0 : chB L = 0
  rotate_left
  · have hl := hLE hc0
    rw [hl] at HPO
    have g0 : (chB L != 0) = true := by simpa using hc0
    generalize chB L = E at *
    clear hzr hLE hLK hl hc0
    go_enter Try.func41, Try.ntmps41
    go_wp2_with (first | (go_at_call 68; refine HCK.out.mono ?_; rintro e w2 ⟨rfl, hb2⟩; have HB2 := hid hb2; clear hb2))
    exact HPO.out _ _ (.slice none 0 0) rfl (World.ownsRow_nil _ _ _ _) HB2.out
  obtain ⟨hn2', hpl⟩ := hzr hc0
  have hl := hLK hc0
  rw [hc0, hl] at HPO
  rw [hc0] at HCK
  have HPLC := hid hpl
  have hn2 : n ≤ 200 := by have := HN.out; omega
  clear hzr hc0 hLE hLK hl hpl hn2'
  go_enter Try.func41, Try.ntmps41
  go_wp2_with (first | (go_at_call 68; refine HCK.out.mono ?_; rintro e w2 ⟨rfl, hb2⟩; have HB2 := hid hb2; clear hb2))
  go_loopw [5, 15] (fun v iv wr => ∃ j : Nat, j ≤ n ∧ iv = .int .i64 j ∧ Hid (wr.ownsRow w2.heap.size 84 2 v (crJ L j).length (flatP (crJ L j))) ∧ Hid (Below w2.heap.size w2 wr)) (fun _ iv _ => n - (intOf iv).toNat)
  case atStart => exact ⟨0, by omega, rfl, hid (World.ownsRow_nil _ _ _ _), hid (Below.refl _ _)⟩
  case round =>
    obtain ⟨j, hj, rfl, hO, hB⟩ := hrel
    by_cases hjn : j < n
    · have hjl : j < L.length := by rw [← HN.out]; exact hjn
      obtain ⟨b, o, rfl, hbB, hc⟩ := HAT.out (by omega)
      have hcl := hid hc
      have q0 : (j : Int) < (n : Int) := by omega
      have hjl3 := crJ_len (L := L) j
      have hjl4 : j * L.length ≤ 200 * 200 := Nat.mul_le_mul (by omega) (by rw [← HN.out]; exact hn2)
      have HJL := hid (show (crJ L j).length ≤ 40000 by omega)
      have HS0 := hid (show crJ L j ++ crRow L j (j + 1) = crJ L j by rw [crRow_0 (by omega), List.append_nil])
      have HSE := hid (show crJ L j ++ crRow L j n = crJ L (j + 1) by rw [crJ_s, ← HN.out])
      clear hc hjl3 hjl4
      obtain ⟨J2, hJ2⟩ : ∃ J2, J2 = crJ L (j + 1) := ⟨_, rfl⟩
      rw [← hJ2] at HSE
      have HJ2 := hid hJ2
      clear hJ2
      generalize crJ L j = J1 at *
      go_wp2_with fail
      obtain ⟨wo, hwo⟩ : ∃ wo, wo = wr := ⟨_, rfl⟩
      subst hwo
      go_loopw [5, 7] (fun v iv wr => ∃ k : Nat, (j + 1 ≤ k ∧ k ≤ n) ∧ iv = .int .i64 k ∧ Hid (wr.ownsRow w2.heap.size 84 2 v (J1 ++ crRow L j k).length (flatP (J1 ++ crRow L j k))) ∧ Hid (Below w2.heap.size w2 wr)) (fun _ iv _ => n - (intOf iv).toNat)
      case atStart => exact ⟨j + 1, ⟨by omega, by omega⟩, by go_num, by rw [HS0.out]; exact hO, hB⟩
      case round =>
        obtain ⟨k, ⟨hk0, hk1⟩, rfl, hO2, hB2⟩ := hrel
        by_cases hkn : k < n
        · have hkl : k < L.length := by rw [← HN.out]; exact hkn
          have q1 : (k : Int) < (n : Int) := by omega
          have hra := range_below (hcl.out j hjl) (HB2.out.trans (hB2.out.mono HB2.out.size)) hbB
          have hrb := range_below (hcl.out k hkl) (HB2.out.trans (hB2.out.mono HB2.out.size)) hbB
          have HLA := hid fun (v : World) (hv : ∃ z : BW wr.heap.size wr, v = z.val) => (show v.rangeAt b (o + j * 15) _ from by obtain ⟨z, rfl⟩ := hv; exact range_below hra z.ok (by have := HB2.out.size; have := hB2.out.size; omega))
          have HLB := hid fun (v : World) (hv : ∃ z : BW wr.heap.size wr, v = z.val) => (show v.rangeAt b (o + k * 15) _ from by obtain ⟨z, rfl⟩ := hv; exact range_below hrb z.ok (by have := HB2.out.size; have := hB2.out.size; omega))
          have HPC := hid (HCR.out _ _ (HPLC.out _ (List.getElem_mem hjl)) (HPLC.out _ (List.getElem_mem hkl)))
          have HRS := hid (crRow_s (i := j) (by omega) hkl)
          have hrl := crRow_len (L := L) (i := j) (m := k)
          have HRL := hid (show (J1 ++ crRow L j k).length ≤ 50000 by rw [List.length_append]; have := HJL.out; omega)
          clear hra hrb hrl
          obtain ⟨R2, hR2⟩ : ∃ R2, R2 = crRow L j (k + 1) := ⟨_, rfl⟩
          rw [← hR2] at HRS
          have HR2 := hid hR2
          generalize crRow L j k = R1 at *
          generalize L[j] = ba at *
          generalize L[k] = bb at *
          have HZA := hid (below_class (wb := wr) (Nat.le_refl wr.heap.size) fun z => HPC.out z.val)
          clear hR2 HPC
          cases hcb : crB ba bb with
          | true =>
            rw [hcb] at HRS HZA
            clear hcb
            go_upto_region 11 with (fail)
            refine region_below (by kernel_rfl) (by kernel_rfl) (Below.refl wr.heap.size wr) ?_
            repeat (first | (refine quiet_load_bx rfl 54 (.tmp 28) rfl b (o + j * 15) _ _ rfl HLA.out Try.underBox (by kernel_rfl) (by kernel_rfl) ?_; simp only [Act.put, List.setIfInBounds_toArray, List.set_cons_succ, List.set_cons_zero]) | (refine quiet_load_bx rfl 54 (.tmp 32) rfl b (o + k * 15) _ _ rfl HLB.out Try.underBox (by kernel_rfl) (by kernel_rfl) ?_; simp only [Act.put, List.setIfInBounds_toArray, List.set_cons_succ, List.set_cons_zero]) | go_big_quiet_step (first | (go_at_call 75; with_reducible exact (HZA.out _))))
            refine wpQuiet_nil ?_
            intro _ hw'
            obtain ⟨z, rfl⟩ := hw'
            have HZB := hid z.ok
            clear HLA HLB HZA
            have HO5 := hid fun X : Obj => own_keep hO2.out (HZB.out.alloc HZB.out.size X)
            have HEE := hid (show flatP (J1 ++ R1) ++ [.int .i64 (j : Int), .int .i64 (k : Int)] = flatP (J1 ++ R2) ∧ (J1 ++ R1).length + 1 = (J1 ++ R2).length from by rw [HRS.out, if_pos rfl, ← List.append_assoc, flatP_app (J1 ++ R1), flatP_one]; exact ⟨rfl, by simp; omega⟩)
            have HBX := hid fun X : Obj => (show Below w2.heap.size w2 (z.val.alloc X) from bnext0 hB2.out (HZB.out.alloc HZB.out.size X))
            clear hO2
            go_wp2_with (first | (at_builtin; go_loud (refine app_elemF rfl (.tmp 35) (.tmp 39) Try.underPairs Try.infoPair rfl (by decide) (by decide) rfl w2.heap.size _ (J1 ++ R1).length (flatP (J1 ++ R1)) rfl (HO5.out _) ⟨z.val.heap.size, 0, none⟩ [.int .i64 (j : Int), .int .i64 (k : Int)] rfl rfl (fun q u h => by rw [Addr.add_lit]; exact cell_here rfl (by simpa using h)) (fun u hu => by simp at hu; rcases hu with rfl | rfl <;> rfl) (by have := HRL.out; omega) (HBX.out _).size ?_); intro v6 w6 ho6 hg6 hf6; rw [HEE.out.1, HEE.out.2] at ho6; have HO6 := hid ho6; have HB6 := hid (below_app (HBX.out _) (HO5.out _) hg6 (Nat.le_refl _) (HBX.out _).size); clear ho6 hg6 hf6))
            go_roundw
            case rel => exact ⟨k + 1, ⟨by omega, by omega⟩, by go_num, by rw [← HR2.out]; exact HO6, HB6⟩
            case measure => simp [intOf]; omega
          | false =>
            rw [hcb] at HRS HZA
            clear hcb
            go_upto_region 11 with (fail)
            refine region_below (by kernel_rfl) (by kernel_rfl) (Below.refl wr.heap.size wr) ?_
            repeat (first | (refine quiet_load_bx rfl 54 (.tmp 28) rfl b (o + j * 15) _ _ rfl HLA.out Try.underBox (by kernel_rfl) (by kernel_rfl) ?_; simp only [Act.put, List.setIfInBounds_toArray, List.set_cons_succ, List.set_cons_zero]) | (refine quiet_load_bx rfl 54 (.tmp 32) rfl b (o + k * 15) _ _ rfl HLB.out Try.underBox (by kernel_rfl) (by kernel_rfl) ?_; simp only [Act.put, List.setIfInBounds_toArray, List.set_cons_succ, List.set_cons_zero]) | go_big_quiet_step (first | (go_at_call 75; with_reducible exact (HZA.out _))))
            refine wpQuiet_nil ?_
            intro _ hw'
            obtain ⟨z, rfl⟩ := hw'
            have HZB := hid z.ok
            clear HLA HLB HZA
            have HO6 := hid (show z.val.ownsRow w2.heap.size 84 2 u5 (J1 ++ R2).length (flatP (J1 ++ R2)) from by rw [HRS.out, if_neg (by decide), List.append_nil]; exact own_keep hO2.out HZB.out)
            have HB6 := hid (show Below w2.heap.size w2 z.val from bnext0 hB2.out HZB.out)
            clear hO2
            go_wp2_with fail
            go_roundw
            case rel => exact ⟨k + 1, ⟨by omega, by omega⟩, by go_num, by rw [← HR2.out]; exact HO6, HB6⟩
            case measure => simp [intOf]; omega
        · obtain rfl : k = n := by omega
          have q1 : decide ((k : Int) < (k : Int)) = false := by simp
          have HO6 := hid (show wr.ownsRow w2.heap.size 84 2 u5 J2.length (flatP J2) from by rw [← HSE.out]; exact hO2.out)
          clear hO2
          go_wp2_with fail
          go_roundw
          case rel => exact ⟨j + 1, by omega, by go_num, by rw [← HJ2.out]; exact HO6, hB2⟩
          case measure => simp [intOf]; omega
    · obtain rfl : j = n := by omega
      have q0 : decide ((j : Int) < (j : Int)) = false := by simp
      go_wp2_with fail
      exact HPO.out _ _ u5 rfl (own_down hO.out HB2.out.size) (HB2.out.trans (hB.out.mono HB2.out.size))
set_option maxRecDepth 100000 in
set_option maxHeartbeats 8000000 in
theorem crossingR_any (L : List Bxv) (A : Option Addr) (c : Nat) (hn : L.length ≤ 1000000) (w : World) (r : Bxs w w.heap.size A L) :
    Calls Try.prog 42 #[.slice A L.length c] w (CrsPost L w) := by
  have HCK := hid (allPlaced_any L A c hn w r)
  have hzr := chB_zero (L := L)
  have hLE : chB L ≠ 0 → crP L = [] := fun h => if_neg h
  have hLK : chB L = 0 → crP L = crJ L L.length := fun h => if_pos h
  have HPO := hid fun (e : Ending) (w' : World) (v : Value) (h1 : e = Ending.returned (.tuple #[v, .int .i64 (chB L)])) (h2 : w'.ownsRow w.heap.size 84 2 v (crP L).length (flatP (crP L))) (h3 : Below w.heap.size w w') => (show CrsPost L w e w' from ⟨v, h1, h2, h3⟩)
  have HAT := hid fun (hl : 0 < L.length) => r.at hl
  have HCR := hid fun (a b : Bxv) (ha : a.placed) (hb : b.placed) (W : World) => crossR_any a b ha hb W
  obtain ⟨Q, hQ⟩ : ∃ Q, Q = CrsPost L w := ⟨_, rfl⟩
  have hQe : ∀ e w', CrsPost L w e w' = Q e w' := fun e w' => by rw [hQ]
  simp only [hQe] at HPO
  rw [← hQ]
  clear hQe hQ
  obtain ⟨n, hnn⟩ : ∃ n, n = L.length := ⟨_, rfl⟩
  rw [← hnn] at hn HCK hLK ⊢
  have HN := hid hnn
  clear r hnn
  by_cases hc0 : chB L = 0
  rotate_left
  · have hl := hLE hc0
    rw [hl] at HPO
    have g0 : (chB L != 0) = true := by simpa using hc0
    generalize chB L = E at *
    clear hzr hLE hLK hl hc0
    go_enter Try.func42, Try.ntmps42
    go_wp2_with (first | (go_at_call 73; refine HCK.out.mono ?_; rintro e w2 ⟨rfl, hb2⟩; have HB2 := hid hb2; clear hb2))
    exact HPO.out _ _ (.slice none 0 0) rfl (World.ownsRow_nil _ _ _ _) HB2.out
  obtain ⟨hn2', hpl⟩ := hzr hc0
  have hl := hLK hc0
  rw [hc0, hl] at HPO
  rw [hc0] at HCK
  have HPLC := hid hpl
  have hn2 : n ≤ 200 := by have := HN.out; omega
  clear hzr hc0 hLE hLK hl hpl hn2'
  go_enter Try.func42, Try.ntmps42
  go_wp2_with (first | (go_at_call 73; refine HCK.out.mono ?_; rintro e w2 ⟨rfl, hb2⟩; have HB2 := hid hb2; clear hb2))
  go_loopw [5, 6] (fun v iv wr => ∃ j : Nat, j ≤ n ∧ iv = .int .i64 j ∧ Hid (wr.ownsRow w2.heap.size 84 2 v (crJ L j).length (flatP (crJ L j))) ∧ Hid (Below w2.heap.size w2 wr)) (fun _ iv _ => n - (intOf iv).toNat)
  case atStart => exact ⟨0, by omega, rfl, hid (World.ownsRow_nil _ _ _ _), hid (Below.refl _ _)⟩
  case round =>
    obtain ⟨j, hj, rfl, hO, hB⟩ := hrel
    by_cases hjn : j < n
    · have hjl : j < L.length := by rw [← HN.out]; exact hjn
      obtain ⟨b, o, rfl, hbB, hc⟩ := HAT.out (by omega)
      have hcl := hid hc
      have q0 : (j : Int) < (n : Int) := by omega
      have hjl3 := crJ_len (L := L) j
      have hjl4 : j * L.length ≤ 200 * 200 := Nat.mul_le_mul (by omega) (by rw [← HN.out]; exact hn2)
      have HJL := hid (show (crJ L j).length ≤ 40000 by omega)
      have HS0 := hid (show crJ L j ++ crRow L j (j + 1) = crJ L j by rw [crRow_0 (by omega), List.append_nil])
      have HSE := hid (show crJ L j ++ crRow L j n = crJ L (j + 1) by rw [crJ_s, ← HN.out])
      clear hc hjl3 hjl4
      obtain ⟨J2, hJ2⟩ : ∃ J2, J2 = crJ L (j + 1) := ⟨_, rfl⟩
      rw [← hJ2] at HSE
      have HJ2 := hid hJ2
      clear hJ2
      generalize crJ L j = J1 at *
      go_wp2_with fail
      obtain ⟨wo, hwo⟩ : ∃ wo, wo = wr := ⟨_, rfl⟩
      subst hwo
      go_loopw [5, 7] (fun v iv wr => ∃ k : Nat, (j + 1 ≤ k ∧ k ≤ n) ∧ iv = .int .i64 k ∧ Hid (wr.ownsRow w2.heap.size 84 2 v (J1 ++ crRow L j k).length (flatP (J1 ++ crRow L j k))) ∧ Hid (Below w2.heap.size w2 wr)) (fun _ iv _ => n - (intOf iv).toNat)
      case atStart => exact ⟨j + 1, ⟨by omega, by omega⟩, by go_num, by rw [HS0.out]; exact hO, hB⟩
      case round =>
        obtain ⟨k, ⟨hk0, hk1⟩, rfl, hO2, hB2⟩ := hrel
        by_cases hkn : k < n
        · have hkl : k < L.length := by rw [← HN.out]; exact hkn
          have q1 : (k : Int) < (n : Int) := by omega
          have hra := range_below (hcl.out j hjl) (HB2.out.trans (hB2.out.mono HB2.out.size)) hbB
          have hrb := range_below (hcl.out k hkl) (HB2.out.trans (hB2.out.mono HB2.out.size)) hbB
          have HLA := hid fun (v : World) (hv : ∃ z : BW wr.heap.size wr, v = z.val) => (show v.rangeAt b (o + j * 15) _ from by obtain ⟨z, rfl⟩ := hv; exact range_below hra z.ok (by have := HB2.out.size; have := hB2.out.size; omega))
          have HLB := hid fun (v : World) (hv : ∃ z : BW wr.heap.size wr, v = z.val) => (show v.rangeAt b (o + k * 15) _ from by obtain ⟨z, rfl⟩ := hv; exact range_below hrb z.ok (by have := HB2.out.size; have := hB2.out.size; omega))
          have HPC := hid (HCR.out _ _ (HPLC.out _ (List.getElem_mem hjl)) (HPLC.out _ (List.getElem_mem hkl)))
          have HRS := hid (crRow_s (i := j) (by omega) hkl)
          have hrl := crRow_len (L := L) (i := j) (m := k)
          have HRL := hid (show (J1 ++ crRow L j k).length ≤ 50000 by rw [List.length_append]; have := HJL.out; omega)
          clear hra hrb hrl
          obtain ⟨R2, hR2⟩ : ∃ R2, R2 = crRow L j (k + 1) := ⟨_, rfl⟩
          rw [← hR2] at HRS
          have HR2 := hid hR2
          generalize crRow L j k = R1 at *
          generalize L[j] = ba at *
          generalize L[k] = bb at *
          have HZA := hid (below_class (wb := wr) (Nat.le_refl wr.heap.size) fun z => HPC.out z.val)
          clear hR2 HPC
          cases hcb : crB ba bb with
          | true =>
            rw [hcb] at HRS HZA
            clear hcb
            go_upto_region 11 with (fail)
            refine region_below (by kernel_rfl) (by kernel_rfl) (Below.refl wr.heap.size wr) ?_
            repeat (first | (refine quiet_load_bx rfl 54 (.tmp 29) rfl b (o + j * 15) _ _ rfl HLA.out Try.underBox (by kernel_rfl) (by kernel_rfl) ?_; simp only [Act.put, List.setIfInBounds_toArray, List.set_cons_succ, List.set_cons_zero]) | (refine quiet_load_bx rfl 54 (.tmp 33) rfl b (o + k * 15) _ _ rfl HLB.out Try.underBox (by kernel_rfl) (by kernel_rfl) ?_; simp only [Act.put, List.setIfInBounds_toArray, List.set_cons_succ, List.set_cons_zero]) | go_big_quiet_step (first | (go_at_call 24; with_reducible exact (HZA.out _))))
            refine wpQuiet_nil ?_
            intro _ hw'
            obtain ⟨z, rfl⟩ := hw'
            have HZB := hid z.ok
            clear HLA HLB HZA
            have HO5 := hid fun X : Obj => own_keep hO2.out (HZB.out.alloc HZB.out.size X)
            have HEE := hid (show flatP (J1 ++ R1) ++ [.int .i64 (j : Int), .int .i64 (k : Int)] = flatP (J1 ++ R2) ∧ (J1 ++ R1).length + 1 = (J1 ++ R2).length from by rw [HRS.out, if_pos rfl, ← List.append_assoc, flatP_app (J1 ++ R1), flatP_one]; exact ⟨rfl, by simp; omega⟩)
            have HBX := hid fun X : Obj => (show Below w2.heap.size w2 (z.val.alloc X) from bnext0 hB2.out (HZB.out.alloc HZB.out.size X))
            clear hO2
            go_wp2_with (first | (at_builtin; go_loud (refine app_elemF rfl (.tmp 36) (.tmp 40) Try.underPairs Try.infoPair rfl (by decide) (by decide) rfl w2.heap.size _ (J1 ++ R1).length (flatP (J1 ++ R1)) rfl (HO5.out _) ⟨z.val.heap.size, 0, none⟩ [.int .i64 (j : Int), .int .i64 (k : Int)] rfl rfl (fun q u h => by rw [Addr.add_lit]; exact cell_here rfl (by simpa using h)) (fun u hu => by simp at hu; rcases hu with rfl | rfl <;> rfl) (by have := HRL.out; omega) (HBX.out _).size ?_); intro v6 w6 ho6 hg6 hf6; rw [HEE.out.1, HEE.out.2] at ho6; have HO6 := hid ho6; have HB6 := hid (below_app (HBX.out _) (HO5.out _) hg6 (Nat.le_refl _) (HBX.out _).size); clear ho6 hg6 hf6))
            go_roundw
            case rel => exact ⟨k + 1, ⟨by omega, by omega⟩, by go_num, by rw [← HR2.out]; exact HO6, HB6⟩
            case measure => simp [intOf]; omega
          | false =>
            rw [hcb] at HRS HZA
            clear hcb
            go_upto_region 11 with (fail)
            refine region_below (by kernel_rfl) (by kernel_rfl) (Below.refl wr.heap.size wr) ?_
            repeat (first | (refine quiet_load_bx rfl 54 (.tmp 29) rfl b (o + j * 15) _ _ rfl HLA.out Try.underBox (by kernel_rfl) (by kernel_rfl) ?_; simp only [Act.put, List.setIfInBounds_toArray, List.set_cons_succ, List.set_cons_zero]) | (refine quiet_load_bx rfl 54 (.tmp 33) rfl b (o + k * 15) _ _ rfl HLB.out Try.underBox (by kernel_rfl) (by kernel_rfl) ?_; simp only [Act.put, List.setIfInBounds_toArray, List.set_cons_succ, List.set_cons_zero]) | go_big_quiet_step (first | (go_at_call 24; with_reducible exact (HZA.out _))))
            refine wpQuiet_nil ?_
            intro _ hw'
            obtain ⟨z, rfl⟩ := hw'
            have HZB := hid z.ok
            clear HLA HLB HZA
            have HO6 := hid (show z.val.ownsRow w2.heap.size 84 2 u5 (J1 ++ R2).length (flatP (J1 ++ R2)) from by rw [HRS.out, if_neg (by decide), List.append_nil]; exact own_keep hO2.out HZB.out)
            have HB6 := hid (show Below w2.heap.size w2 z.val from bnext0 hB2.out HZB.out)
            clear hO2
            go_wp2_with fail
            go_roundw
            case rel => exact ⟨k + 1, ⟨by omega, by omega⟩, by go_num, by rw [← HR2.out]; exact HO6, HB6⟩
            case measure => simp [intOf]; omega
        · obtain rfl : k = n := by omega
          have q1 : decide ((k : Int) < (k : Int)) = false := by simp
          have HO6 := hid (show wr.ownsRow w2.heap.size 84 2 u5 J2.length (flatP J2) from by rw [← HSE.out]; exact hO2.out)
          clear hO2
          go_wp2_with fail
          go_roundw
          case rel => exact ⟨j + 1, by omega, by go_num, by rw [← HJ2.out]; exact HO6, hB2⟩
          case measure => simp [intOf]; omega
    · obtain rfl : j = n := by omega
      have q0 : decide ((j : Int) < (j : Int)) = false := by simp
      go_wp2_with fail
      exact HPO.out _ _ u5 rfl (own_down hO.out HB2.out.size) (HB2.out.trans (hB.out.mono HB2.out.size))
end Go.Proofs.Ytfkcpcdndleboaa
