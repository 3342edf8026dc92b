/- WALK: extend. -/
import Derived.Test.YtaoddenadfmdbaaTbM
import Derived.Test.YtaoddenadfmdbaaApW
import Derived.Lib.LazyBuf
namespace Go.Proofs.Ytaoddenadfmdbaa
open Go.RowKit Go.Maps
theorem nzL_getD (l : List Nat) (j : Nat) : nth (nzL l) j = (l.getD j 0 : Nat) := by
  unfold nth nzL
  by_cases h : j < l.length
  · simp [List.getD, h]
  · simp [List.getD, List.getElem?_eq_none (Nat.not_lt.1 h)]
theorem nz_take {l : List Nat} {j : Nat} (h : j < l.length) : ints (nzL (l.take (j + 1))) = ints (nzL (l.take j)) ++ [.int .i64 (l.getD j 0 : Nat)] := by
  rw [List.take_add_one, List.getElem?_eq_getElem h]
  unfold ints nzL
  rw [List.map_append, List.map_append]
  simp [List.getD, h]
theorem nz_get {l : List Nat} {j : Nat} (h : j < l.length) : (ints (nzL l))[j]? = some (.int .i64 (l.getD j 0 : Nat)) := by
  rw [ints_get (by rw [nzL_len]; exact h)]
  have := nzL_getD l j
  unfold nth at this
  rw [this]
theorem own_cell {W : World} {b c n g : Nat} {l : List Nat} {j : Nat} (h : W.ownsRow b 3 1 (.slice (some ⟨g, 0, none⟩) n c) n (ints (nzL l))) (hj : j < l.length) : W.cell? ⟨g, j, none⟩ = some (.int .i64 (l.getD j 0 : Nat)) := by
  have h1 := h.cells (g := g) rfl j _ (nz_get hj)
  simpa only [Addr.add_lit, Nat.zero_add] using h1
theorem getD_take {l : List Nat} {j k : Nat} (h : j < k) : (l.take k).getD j 0 = l.getD j 0 := by
  simp [List.getD, h]
set_option maxRecDepth 100000 in
set_option maxHeartbeats 4000000 in
theorem extend_any {cs : List Cl} {par : List Int} {n B : Nat} {A2 A3 : Option Addr} {c2 c3 gq cq : Nat} {D : DataW Unit} {K : Nat} {rv : Value} (hpl : par.length ≤ 1000) (row : List Nat) (hrow : row.length = par.length + 1) (hbd : ∀ j, j ≤ par.length → row.getD j 0 ≤ 100000) (sign : Int) (A : Option Addr) (c : Nat) (w : World) (r : Rd w w.heap.size A (nzL row)) (h : Sx cs par n B A2 A3 c2 c3 gq cq D K rv w) :
    Calls Try.prog 59 #[.pointer (some ⟨B + 1, 0, none⟩), .slice A (par.length + 1) c, .int .i64 sign] w fun e w' => (∃ A' c', e = .returned (.slice A' (par.length + 1) c') ∧ w'.ownsRow w.heap.size 3 1 (.slice A' (par.length + 1) c') (par.length + 1) (ints (nzL (exRow sign par row)))) ∧ Below w.heap.size w w' := by
  obtain ⟨m, hm⟩ : ∃ m, m = par.length := ⟨_, rfl⟩
  have hel := exRow_len (x := sign) hrow
  have hbe := exRow_bd (x := sign) hrow hbd
  have pc2 := h.s.cells.c2
  obtain ⟨b, o, rfl, hb, hcel⟩ := r.at (by rw [nzL_len]; omega)
  have p0 := hcel 0 (by rw [nzL_len]; omega)
  rw [nzL_getD, Nat.add_zero] at p0
  have HR := hid fun (j : Nat) (hj : j ≤ par.length) => (show w.cell? ⟨b, o + j, none⟩ = some (.int .i64 (row.getD j 0 : Nat)) by
    have := hcel j (by rw [nzL_len]; omega)
    rw [nzL_getD] at this
    exact this)
  have HZ := hid (exRow_zero (x := sign) hrow)
  have HSU := hid fun (k : Nat) (hk : k < par.length) => exRow_succ (x := sign) hrow hk
  have HPA := hid h.pa
  have hbl := h.kb; have hkw := h.kw
  have HBW := hid (show B ≤ w.heap.size by omega)
  have HH := hid h
  obtain ⟨ex, hex⟩ : ∃ ex, ex = exRow sign par row := ⟨_, rfl⟩
  rw [← hex] at hel hbe HZ HSU ⊢
  obtain ⟨d0, hd0⟩ : ∃ d, d = row.getD 0 0 := ⟨_, rfl⟩
  rw [← hd0] at p0 HZ
  have hd1 := hbd 0 (by omega)
  rw [← hd0] at hd1
  rw [← hm] at pc2 hpl hel hbe hbd HR HSU ⊢
  have HM := hid hm; have HEL := hid hel; have HBE := hid hbe; have HBD := hid hbd
  have hw0 : wrap64 ((d0 : Int) + 1) = ((d0 + 1 : Nat) : Int) := by unfold wrap64; omega
  have q0 : (0 : Int) < (m : Int) + 1 := by omega
  clear hm hrow hel hbe hbd r h hcel hex hd0 hbl hkw
  go_enter Try.func59, Try.ntmps59
  go_upto_region 2 with (fail)
  obtain ⟨w1, hw1⟩ : ∃ W, W = w.alloc (.cells #[.int .i64 ((d0 : Int) + 1)] 3) := ⟨_, rfl⟩
  have hb1 : Below w.heap.size w w1 := by rw [hw1]; exact (Below.refl _ _).alloc (Nat.le_refl _) _
  have HO1 := hid (show w1.ownsRow w.heap.size 3 1 (.slice (some ⟨w.heap.size, 0, none⟩) 1 1) 1 (ints (nzL (ex.take 1))) by
    rw [hw1]
    have h1 := own_lit w 3 #[.int .i64 ((d0 : Int) + 1)] (B := w.heap.size) (n := 1) (size := 1) (Nat.le_refl _) rfl (by unfold maxLen; omega)
    have h2 : ints (nzL (ex.take 1)) = [.int .i64 ((d0 : Int) + 1)] := by
      rw [show (1 : Nat) = 0 + 1 from rfl, nz_take (by have := HEL.out; omega), HZ.out]
      simp [ints, nzL]
    rw [h2]
    exact h1)
  rw [← hw1]
  have pc2' := cell_keep hb1 pc2
  have HB1 := hid hb1
  obtain ⟨s0, hs0⟩ : ∃ v, v = Value.slice (some ⟨w.heap.size, 0, none⟩) 1 1 := ⟨_, rfl⟩
  rw [← hs0] at HO1 ⊢
  clear hw1 hb1 pc2 p0 hs0
  go_wp2_with fail
  go_loopw [7, 20] (fun v7 jv wr => ∃ j : Nat, j ≤ m ∧ jv = .int .i64 (j : Int) ∧ Hid (wr.ownsRow w.heap.size 3 1 v7 (j + 1) (ints (nzL (ex.take (j + 1))))) ∧ Hid (Below w.heap.size w wr)) (fun _ jv _ => m - (intOf jv).toNat)
  case atStart => exact ⟨0, by omega, rfl, HO1, HB1⟩
  case round =>
    obtain ⟨j, hj, rfl, hO, hB⟩ := hrel
    by_cases hjm : j < m
    · obtain ⟨A7, c7, rfl⟩ := own_slice hO.out
      have hX := HH.out.keep (hB.out.mono HH.out.kw)
      obtain ⟨gp, op, rfl, hgp, hpc⟩ := hX.pa.at (by rw [← HM.out]; omega)
      have p1 := hpc j (by rw [← HM.out]; exact hjm)
      obtain ⟨av, hav⟩ : ∃ a, a = nth par j := ⟨_, rfl⟩
      rw [← hav] at p1
      have hlg := hO.out.2.resolve_left (fun h => by omega)
      obtain ⟨g7, cap7, cur7, hv7, _, hh7, _⟩ := hlg
      injection hv7 with e1 _ e3
      subst e1
      subst e3
      have hgb := hO.out.lt g7 rfl
      have p4 := own_cell hO.out (j := j) (by rw [List.length_take, HEL.out]; omega)
      rw [getD_take (by omega)] at p4
      have p2 := (hB.out.cell (p := ⟨b, o + j, none⟩) hb).trans (HR.out j (by omega))
      have p3 := (hB.out.cell (p := ⟨b, o + (j + 1), none⟩) hb).trans (HR.out (j + 1) (by omega))
      have HDF := hid (differ_any sign av)
      have hsu := HSU.out j hjm
      have b1 := HBD.out j (by omega); have b2 := HBD.out (j + 1) (by omega); have b3 := HBE.out j (by omega)
      have b4 := df_le sign av
      rw [show par.getD j 0 = av from hav.symm] at hsu
      obtain ⟨x1, hx1⟩ : ∃ x, x = row.getD j 0 := ⟨_, rfl⟩
      obtain ⟨x2, hx2⟩ : ∃ x, x = row.getD (j + 1) 0 := ⟨_, rfl⟩
      obtain ⟨x3, hx3⟩ : ∃ x, x = ex.getD j 0 := ⟨_, rfl⟩
      obtain ⟨u, hu⟩ : ∃ x, x = df sign av := ⟨_, rfl⟩
      rw [← hx1] at p2 b1 hsu; rw [← hx2] at p3 b2 hsu; rw [← hx3] at p4 b3 hsu; rw [← hu] at b4 hsu HDF
      obtain ⟨z, hz⟩ : ∃ z, z = min (min (x1 + u) (x2 + 1)) (x3 + 1) := ⟨_, rfl⟩
      have HNW := hid (show ints (nzL (ex.take (j + 1 + 1))) = ints (nzL (ex.take (j + 1))) ++ [.int .i64 (z : Int)] by rw [nz_take (by rw [HEL.out]; omega), hsu, hz])
      have HV := hid (show (if (x3 : Int) + 1 < if (x2 : Int) + 1 < (x1 : Int) + (u : Int) then (x2 : Int) + 1 else (x1 : Int) + (u : Int) then (x3 : Int) + 1 else if (x2 : Int) + 1 < (x1 : Int) + (u : Int) then (x2 : Int) + 1 else (x1 : Int) + (u : Int)) = (z : Int) by rw [hz]; split <;> split <;> omega)
      obtain ⟨xs, hxs⟩ : ∃ l, l = ints (nzL (ex.take (j + 1))) := ⟨_, rfl⟩
      rw [← hxs] at hO HNW
      have q1 : (j : Int) < (m : Int) := by omega
      have q2 : (0 : Int) ≤ (j : Int) + 1 := by omega
      have q3 : (j : Int) < (m : Int) + 1 := by omega
      have q4 : (j : Int) + 1 < (m : Int) + 1 := by omega
      have kk1 : IntKind.i64.wrap ((x1 : Int) + (u : Int)) = (x1 : Int) + (u : Int) := IntWalk.i64_in _ (by omega)
      have kk2 : IntKind.i64.wrap ((x2 : Int) + 1) = (x2 : Int) + 1 := IntWalk.i64_in _ (by omega)
      have kk3 : IntKind.i64.wrap ((x3 : Int) + 1) = (x3 : Int) + 1 := IntWalk.i64_in _ (by omega)
      have kk4 : IntKind.i64.wrap ((j : Int) + 1) = (j : Int) + 1 := IntWalk.i64_in _ (by omega)
      have q5 : ¬ (j : Int) + 1 ≤ (j : Int) := by omega
      have HBB := hid hB.out; have HOO := hid hO.out
      clear hsu hx1 hx2 hx3 hu hav hxs hpc hh7 hX hz
      go_upto_region 5 with (fail)
      refine region_call [0, 1, 2, 3, 4, 5, 6, 9, 10, 11, 12, 13, 14, 15, 16, 17, 18, 19] [7, 8, 20, 21] [22, 23] (fun W => W.cell? ⟨b, o + j, none⟩ = some (.int .i64 (x1 : Int)) ∧ W.cell? ⟨b, o + (j + 1), none⟩ = some (.int .i64 (x2 : Int)) ∧ W.cell? ⟨g7, j, none⟩ = some (.int .i64 (x3 : Int))) (by kernel_rfl) (by kernel_rfl) (fun d _ _ _ _ h => by cases d <;> exact h) ⟨p2, p3, p4⟩ ?_
      apply Exists.intro
      simp only [List.map_cons, List.map_nil, List.getD_cons_zero, List.getD_cons_succ]
      refine ⟨⟨_, Or.inl ⟨by rfl, fun W hW => by go_simp; rfl⟩, _, Or.inl ⟨by rfl, fun W hW => by go_simp; rfl⟩, _, Or.inl ⟨by rfl, fun W hW => by go_simp; rfl⟩, .pointer (some ⟨b, o + j, none⟩), Or.inl ⟨by rfl, fun W hW => by go_simp⟩, .int .i64 (x1 : Int), Or.inl ⟨by rfl, fun W hW => by have p := hW.1; go_simp⟩, _, Or.inl ⟨by rfl, fun W hW => by go_simp; rfl⟩, _, Or.inl ⟨by rfl, fun W hW => by go_simp; rfl⟩, _, Or.inl ⟨by rfl, fun W hW => by go_simp; rfl⟩, _, Or.inl ⟨by rfl, fun W hW => by go_simp; rfl⟩, .int .i64 ((j : Int) + 1), Or.inl ⟨by rfl, fun W hW => by go_simp⟩, .pointer (some ⟨b, o + (j + 1), none⟩), Or.inl ⟨by rfl, fun W hW => by go_simp⟩, .int .i64 (x2 : Int), Or.inl ⟨by rfl, fun W hW => by have p := hW.2.1; go_simp⟩, .int .i64 ((x2 : Int) + 1), Or.inl ⟨by rfl, fun W hW => by go_simp⟩, _, Or.inl ⟨by rfl, fun W hW => by go_simp; rfl⟩, _, Or.inl ⟨by rfl, fun W hW => by go_simp; rfl⟩, .pointer (some ⟨g7, j, none⟩), Or.inl ⟨by rfl, fun W hW => by go_simp⟩, .int .i64 (x3 : Int), Or.inl ⟨by rfl, fun W hW => by have p := hW.2.2; go_simp⟩, .int .i64 ((x3 : Int) + 1), Or.inl ⟨by rfl, fun W hW => by go_simp⟩, rfl⟩, ?_⟩
      simp only [Act.put, List.setIfInBounds_toArray, List.set_cons_zero, List.set_cons_succ]
      refine wpMid_step rfl (fun K hK => ?_)
      go_simp
      go_wp2_with (first | (go_at_call 71; refine (HDF.out _).mono ?_; rintro e w7 ⟨rfl, rfl⟩))
      refine hK.out _ _ ⟨p2, p3, p4⟩ ?_
      clear hK K
      refine wpMid_step rfl (fun K hK => ?_)
      go_simp
      refine hK.out _ _ ⟨p2, p3, p4⟩ ?_
      clear hK K
      refine wpMid_step rfl (fun K hK => ?_)
      go_simp
      rw [HV.out]
      refine hK.out _ _ ⟨p2, p3, p4⟩ ?_
      clear hK K
      refine wpMid_step rfl (fun K hK => ?_)
      go_simp
      refine hK.out _ _ ⟨cell_old p2, cell_old p3, cell_old p4⟩ ?_
      clear hK K
      simp only [wpMid]
      have HNS := hid (show wr.heap.size < maxLen ∨ True from .inr trivial)
      go_wp2_with (first
        | (at_builtin; go_loud (refine app_elem rfl (.tmp 25) (.tmp 46) Try.underlying26 Try.infoInt rfl (by decide) (by decide) rfl w.heap.size _ (j + 1) xs rfl (HOO.out.alloc _).drew ⟨wr.heap.size, 0, none⟩ [.int .i64 (z : Int)] rfl rfl (cell_news_at wr [.int .i64 (z : Int)] _ rfl) (by simp [Value.oneCell']) (by omega) (by have := HBB.out.size; simp; omega) ?_); intro v5 w5 ho5 hg5; have HO5 := hid ho5; have HG5 := hid hg5; clear ho5 hg5))
      have hA : Below wr.heap.size wr (wr.alloc (.cells #[.int .i64 (z : Int)] 3)).drew := ((Below.refl _ _).alloc (Nat.le_refl _) _).drew
      have hb5 : Below w.heap.size w w5 := (HBB.out.trans (hA.mono HBB.out.size)).grown HG5.out (by have := HBB.out.size; simp; omega) (fun j hj => (HOO.out.lt j hj).1)
      go_roundw
      case rel =>
        refine ⟨j + 1, by omega, by go_num, hid ?_, hid hb5⟩
        rw [HNW.out]
        exact HO5.out
      case measure => simp [intOf]; omega
    · obtain rfl : j = m := by omega
      have e0 : decide ((j : Int) < (j : Int)) = false := by simp
      have hO2 := hO.out
      rw [show ex.take (j + 1) = ex by rw [← HEL.out]; simp] at hO2
      obtain ⟨A7, c7, rfl⟩ := own_slice hO2
      have HO2 := hid hO2
      have hX := HH.out.keep (hB.out.mono HH.out.kw)
      clear hO2 hO
      go_wp2_with fail
      go_ret
      exact ⟨⟨A7, c7, rfl, HO2.out⟩, hB.out⟩
end Go.Proofs.Ytaoddenadfmdbaa

/- BASE: a table of numbers in memory, filled from the end. -/
namespace Go.Proofs.Ytaoddenadfmdbaa
open Go.RowKit
theorem Try.infoIntRow : (Try.prog.info? 26).map (fun i => (i.zero, i.size, i.bytes)) = some (some (.slice none 0 0), 1, 24) := by kernel_rfl
/-- The table: the rows from r on are filled. -/
structure TabF (w : World) (B : Nat) (F : Nat → Nat → Nat) (la lb r : Nat) : Prop where
  top : w.rowIs B 26 (la + 1) (fun x => if r ≤ x then .slice (some ⟨B + 1 + (la - x), 0, none⟩) (lb + 1) (lb + 1) else .slice none 0 0)
  rows : ∀ x, r ≤ x → x ≤ la → w.rowIs (B + 1 + (la - x)) 3 (lb + 1) (fun k => .int .i64 (F x k))
/-- .. and of row i the places from s on. -/
structure TabFI (w : World) (B : Nat) (F : Nat → Nat → Nat) (la lb i s : Nat) : Prop where
  top : w.rowIs B 26 (la + 1) (fun x => if i ≤ x then .slice (some ⟨B + 1 + (la - x), 0, none⟩) (lb + 1) (lb + 1) else .slice none 0 0)
  rows : ∀ x, i + 1 ≤ x → x ≤ la → w.rowIs (B + 1 + (la - x)) 3 (lb + 1) (fun k => .int .i64 (F x k))
  cur : w.rowIs (B + 1 + (la - i)) 3 (lb + 1) (fun k => if s ≤ k then .int .i64 (F i k) else .int .i64 0)
theorem TabF.start (w : World) (F : Nat → Nat → Nat) (la lb : Nat) : TabF (w.alloc (.cells (madeCells #[.slice none 0 0] (la + 1)) 26)) w.heap.size F la lb (la + 1) :=
  ⟨(World.rowIs_made w (.slice none 0 0) (la + 1) 26).congr (fun x hx => by rw [if_neg (by omega)]), fun x h1 h2 => by omega⟩
theorem TabF.row {w : World} {B : Nat} {F : Nat → Nat → Nat} {la lb i : Nat} (h : TabF w B F la lb (i + 1)) (hi : i ≤ la) (hsz : w.heap.size = B + 1 + (la - i)) :
    TabFI ((w.setCell ⟨B, i, none⟩ (.slice (some ⟨w.heap.size, 0, none⟩) (lb + 1) (lb + 1))).alloc (.cells (madeCells #[.int .i64 0] (lb + 1)) 3)) B F la lb i (lb + 1) := by
  refine ⟨((h.top.set i _).alloc _).congr (fun x hx => ?_), fun x h1 h2 => ((h.rows x h1 h2).setOther (by simp; omega) _).alloc _, ?_⟩
  · by_cases e : x = i
    · subst e; simp [hsz]
    · rw [if_neg e]
      by_cases h1 : i + 1 ≤ x
      · rw [if_pos h1, if_pos (by omega)]
      · rw [if_neg h1, if_neg (by omega)]
  · have := World.rowIs_made (w.setCell ⟨B, i, none⟩ (.slice (some ⟨w.heap.size, 0, none⟩) (lb + 1) (lb + 1))) (.int .i64 0) (lb + 1) 3
    rw [show (w.setCell ⟨B, i, none⟩ (.slice (some ⟨w.heap.size, 0, none⟩) (lb + 1) (lb + 1))).heap.size = B + 1 + (la - i) by simp [World.setCell, hsz]] at this
    exact this.congr (fun x hx => by rw [if_neg (by omega)])
theorem TabF.at {w w' : World} {B : Nat} {F : Nat → Nat → Nat} {la lb : Nat} (h : TabF w B F la lb 0) (hb : Below w.heap.size w w') (x k : Nat) (hx : x ≤ la) (hk : k ≤ lb) :
    w'.cell? ⟨B, x, none⟩ = some (.slice (some ⟨B + 1 + (la - x), 0, none⟩) (lb + 1) (lb + 1)) ∧ w'.cell? ⟨B + 1 + (la - x), k, none⟩ = some (.int .i64 (F x k)) := by
  have h1 := h.top.lt
  have h2 := (h.rows x (Nat.zero_le _) hx).lt
  refine ⟨(hb.cell (p := ⟨B, x, none⟩) h1).trans ?_, (hb.cell (p := ⟨B + 1 + (la - x), k, none⟩) h2).trans ((h.rows x (Nat.zero_le _) hx).cell (by omega))⟩
  rw [h.top.cell (by omega), if_pos (Nat.zero_le _)]
theorem TabFI.put {w : World} {B : Nat} {F : Nat → Nat → Nat} {la lb i s : Nat} (h : TabFI w B F la lb i (s + 1)) (hi : i ≤ la) :
    TabFI (w.setCell ⟨B + 1 + (la - i), s, none⟩ (.int .i64 (F i s))) B F la lb i s := by
  refine ⟨h.top.setOther (by simp; omega) _, fun x h1 h2 => (h.rows x h1 h2).setOther (by simp; omega) _, (h.cur.set s _).congr (fun x hx => ?_)⟩
  by_cases e : x = s
  · subst e; simp
  · rw [if_neg e]
    by_cases h1 : s + 1 ≤ x
    · rw [if_pos h1, if_pos (by omega)]
    · rw [if_neg h1, if_neg (by omega)]
theorem TabFI.done {w : World} {B : Nat} {F : Nat → Nat → Nat} {la lb i : Nat} (h : TabFI w B F la lb i 0) : TabF w B F la lb i :=
  ⟨h.top, fun x h1 h2 => by
    rcases Nat.lt_or_ge i x with h3 | h3
    · exact h.rows x (by omega) h2
    · obtain rfl : x = i := by omega
      exact h.cur.congr (fun k hk => by rw [if_pos (Nat.zero_le _)])⟩
theorem TabFI.drew {w : World} {B : Nat} {F : Nat → Nat → Nat} {la lb i s : Nat} (h : TabFI w B F la lb i s) : TabFI w.drew B F la lb i s := ⟨h.top, h.rows, h.cur⟩
/-- What one step of the table reads. -/
theorem TabFI.reads {w : World} {B : Nat} {F : Nat → Nat → Nat} {la lb i s : Nat} (h : TabFI w B F la lb i (s + 1)) (hi : i < la) (hs : s < lb) :
    w.cell? ⟨B, i, none⟩ = some (.slice (some ⟨B + 1 + (la - i), 0, none⟩) (lb + 1) (lb + 1)) ∧ w.cell? ⟨B, i + 1, none⟩ = some (.slice (some ⟨B + 1 + (la - (i + 1)), 0, none⟩) (lb + 1) (lb + 1)) ∧
    w.cell? ⟨B + 1 + (la - (i + 1)), s + 1, none⟩ = some (.int .i64 (F (i + 1) (s + 1))) ∧ w.cell? ⟨B + 1 + (la - (i + 1)), s, none⟩ = some (.int .i64 (F (i + 1) s)) ∧
    w.cell? ⟨B + 1 + (la - i), s + 1, none⟩ = some (.int .i64 (F i (s + 1))) := by
  refine ⟨?_, ?_, (h.rows (i + 1) (Nat.le_refl _) hi).cell (by omega), (h.rows (i + 1) (Nat.le_refl _) hi).cell (by omega), ?_⟩
  · rw [h.top.cell (by omega), if_pos (Nat.le_refl _)]
  · rw [h.top.cell (by omega), if_pos (by omega)]
  · rw [h.cur.cell (by omega), if_pos (Nat.le_refl _)]
theorem TabFI.own {w : World} {B : Nat} {F : Nat → Nat → Nat} {la lb i s : Nat} (h : TabFI w B F la lb i (s + 1)) (hi : i ≤ la) (hs : s ≤ lb) :
    w.cell? ⟨B, i, none⟩ = some (.slice (some ⟨B + 1 + (la - i), 0, none⟩) (lb + 1) (lb + 1)) ∧ w.cell? ⟨B + 1 + (la - i), s, none⟩ = some (.int .i64 0) ∧ w.frozen? ⟨B + 1 + (la - i), s, none⟩ = false := by
  refine ⟨?_, ?_, h.cur.frozen s⟩
  · rw [h.top.cell (by omega), if_pos (Nat.le_refl _)]
  · rw [h.cur.cell (by omega), if_neg (by omega)]
end Go.Proofs.Ytaoddenadfmdbaa

/- WALK: bound. -/
namespace Go.Proofs.Ytaoddenadfmdbaa
open Go.RowKit Go.Maps
set_option maxRecDepth 100000 in
set_option maxHeartbeats 4000000 in
theorem bound_any {cs : List Cl} {par : List Int} {n B : Nat} {A2 A3 : Option Addr} {c2 c3 gq cq : Nat} {D : DataW Unit} {K : Nat} {rv : Value} (hpl : par.length ≤ 1000) (S : List Nat) (hS : SetOk cs S) (hSl : S.length ≤ 1000) (row : List Nat) (hrow : row.length = par.length + 1) (hbd : ∀ j, j ≤ par.length → row.getD j 0 ≤ 100000) (A A' : Option Addr) (c c' : Nat) (R r : Nat) (T : Nat → Nat → Nat → Nat) (hT : ∀ r x j, T r x j ≤ 1048576) (hr : r < R) (w : World) (rs : Rd w w.heap.size A (nzL S)) (rr : Rd w w.heap.size A' (nzL row)) (h : Sx cs par n B A2 A3 c2 c3 gq cq D K rv w) (ht : RsAt w rv R (posL cs).length par.length T) :
    Calls Try.prog 58 #[.pointer (some ⟨B + 1, 0, none⟩), .slice A S.length c, .slice A' (par.length + 1) c', .int .i64 (r : Int)] w fun e w' => (∃ v : Nat, e = .returned (.int .i64 (v : Int)) ∧ bndOk cs par S row (T r) v) ∧ w' = w := by
  obtain ⟨m, hm⟩ : ∃ m, m = par.length := ⟨_, rfl⟩
  obtain ⟨k, hk⟩ : ∃ k, k = S.length := ⟨_, rfl⟩
  obtain ⟨gr, cr, rfl, htt⟩ := ht
  obtain ⟨gt, ct, t1, htab⟩ := htt r hr
  have pc5 := h.s.cells.c5
  obtain ⟨np, hnp⟩ : ∃ np, np = (posL cs).length := ⟨_, rfl⟩
  obtain ⟨b, o, rfl, hb, hcel⟩ := rr.at (by rw [nzL_len]; omega)
  rw [← hm, ← hnp] at htab
  rw [← hnp] at t1
  have HR := hid fun (j : Nat) (hj : j ≤ m) => (show w.cell? ⟨b, o + j, none⟩ = some (.int .i64 (row.getD j 0 : Nat)) by
    have := hcel j (by rw [nzL_len]; omega)
    rw [nzL_getD] at this
    exact this)
  have HBD := hid fun (j : Nat) (hj : j ≤ m) => hbd j (by omega)
  have HTA := hid htab; have HTB := hid hT; have HRS := hid rs
  have HXL := hid fun (i : Nat) (hi : i < S.length) => (show S[i] < np by rw [hnp]; exact hS _ (List.getElem_mem hi))
  have HP : Hid (∀ v : Nat, (∀ (i : Nat) (hi : i < S.length) (j : Nat), j ≤ m → v ≤ row.getD j 0 + T r S[i] j) → bndOk cs par S row (T r) v) := hid fun v hv x hx j hj => by
    obtain ⟨i, hi, rfl⟩ := List.getElem_of_mem hx
    exact hv i hi j (by omega)
  rw [← hm] at hpl ⊢
  rw [← hk] at hSl ⊢
  have HM := hid hm; have HKL := hid hk
  have q0 : (r : Int) < (R : Int) := by omega
  clear hm hk hnp hS hrow hbd hT hr rs rr h htt htab hcel
  go_enter Try.func58, Try.ntmps58
  go_wp2_with fail
  go_loopw [9, 16] (fun v9 iv wr => ∃ i v : Nat, i ≤ k ∧ iv = .int .i64 (i : Int) ∧ v9 = .int .i64 (v : Int) ∧ v ≤ 1048576 ∧ Hid (∀ (i' : Nat) (hi : i' < S.length) (j : Nat), i' < i → j ≤ m → v ≤ row.getD j 0 + T r S[i'] j) ∧ wr = w) (fun _ iv _ => k - (intOf iv).toNat)
  case atStart => exact ⟨0, 1048576, by omega, rfl, rfl, by omega, hid fun i' hi j h => by omega, rfl⟩
  case round =>
    obtain ⟨i, v, hi, rfl, rfl, hv, hV, rfl⟩ := hrel
    by_cases hik : i < k
    · have hiS : i < S.length := by rw [← HKL.out]; exact hik
      obtain ⟨bs, os, rfl, _, hcs⟩ := HRS.out.at (by rw [nzL_len]; omega)
      have p1 := hcs i (by rw [nzL_len]; exact hiS)
      rw [nzL_nth hiS] at p1
      have hxl := HXL.out i hiS
      have HST : Hid (∀ v' : Nat, v' ≤ v → (∀ j, j ≤ m → v' ≤ row.getD j 0 + T r (S[i]'hiS) j) → ∀ (i' : Nat) (hi : i' < S.length) (j : Nat), i' < i + 1 → j ≤ m → v' ≤ row.getD j 0 + T r S[i'] j) := hid fun v' h1 h2 i' hi' j h3 hj => by
        by_cases e : i' = i
        · subst e; exact h2 j hj
        · exact Nat.le_trans h1 (hV.out i' hi' j (by omega) hj)
      generalize S[i]'hiS = x at p1 hxl HST
      have HXN := hid hxl
      have q1 : (i : Int) < (k : Int) := by omega
      have q2 : (x : Int) < (np : Int) := by omega
      obtain ⟨wo, rfl⟩ : ∃ wo : World, wo = wr := ⟨_, rfl⟩
      clear hcs hiS hxl hV
      go_wp2_with fail
      go_loopw [9, 22] (fun v9 jv wr => ∃ j v' : Nat, j ≤ m + 1 ∧ jv = .int .i64 (j : Int) ∧ v9 = .int .i64 (v' : Int) ∧ v' ≤ v ∧ Hid (∀ j', j' ≤ m → j' < j → v' ≤ row.getD j' 0 + T r x j') ∧ wo = wr) (fun _ jv _ => m + 1 - (intOf jv).toNat)
      case atStart => exact ⟨0, v, by omega, rfl, rfl, by omega, hid fun j' _ h => by omega, rfl⟩
      case round =>
        obtain ⟨j, v', hj, rfl, rfl, hv', hV', rfl⟩ := hrel
        by_cases hjm : j < m + 1
        · have hjm1 : j ≤ m := by omega
          have p2 := HR.out j hjm1
          obtain ⟨gx, cx, p3, p4⟩ := HTA.out x j HXN.out hjm1
          have b1 := HBD.out j hjm1
          have b2 := HTB.out r x j
          obtain ⟨y, hy⟩ : ∃ y, y = row.getD j 0 := ⟨_, rfl⟩
          obtain ⟨z, hz⟩ : ∃ z, z = T r x j := ⟨_, rfl⟩
          rw [← hy] at p2 b1; rw [← hz] at p4 b2
          have HY := hid hy; have HZ := hid hz
          have e9 : ((min v' (y + z) : Nat) : Int) = min (v' : Int) ((y : Int) + (z : Int)) := by omega
          have HE := hid e9
          have q3 : (j : Int) < (m : Int) + 1 := by omega
          clear hy hz e9
          go_wp2_with fail
          go_roundw
          case rel =>
            refine ⟨j + 1, min v' (y + z), by omega, by go_num, by rw [HE.out], by omega, hid fun j' h1 h2 => ?_, trivial⟩
            by_cases e : j' = j
            · subst e; rw [← HY.out, ← HZ.out]; omega
            · exact Nat.le_trans (by omega) (hV'.out j' h1 (by omega))
          case measure => simp [intOf]; omega
        · obtain rfl : j = m + 1 := by omega
          have q3 : decide (((m + 1 : Nat) : Int) < (m : Int) + 1) = false := decide_eq_false (by omega)
          go_wp2_with fail
          go_roundw
          case rel => exact ⟨i + 1, v', by omega, by go_num, rfl, by omega, hid (HST.out v' hv' fun j' h => hV'.out j' h (by omega)), trivial⟩
          case measure => simp [intOf]; omega
    · obtain rfl : i = k := by omega
      have e0 : decide ((i : Int) < (i : Int)) = false := by simp
      go_wp2_with fail
      go_ret
      exact ⟨⟨v, rfl, HP.out v fun i' hi' j hj => hV.out i' hi' j (by rw [HKL.out]; exact hi') hj⟩, rfl⟩
end Go.Proofs.Ytaoddenadfmdbaa

/- WALK: slices.Clone of numbers. -/
namespace Go.Proofs.Ytaoddenadfmdbaa
open Go.RowKit Go.Lib
set_option maxRecDepth 100000 in
set_option maxHeartbeats 1000000 in
theorem wclone_any (l : List Int) (v : Value) (B : Nat) (hl : l.length ≤ 1000000000) (w : World) (ho : w.ownsRow B 3 1 v l.length (ints l)) :
    Calls Try.prog 60 #[v] w fun e w' => ∃ v', e = .returned v' ∧ w'.ownsRow w.heap.size 3 1 v' l.length (ints l) ∧ Below w.heap.size w w' := by
  rcases ho.2 with ⟨rfl, h0⟩ | ⟨g, cap, cur, rfl, _⟩
  · obtain rfl : l = [] := List.eq_nil_of_length_eq_zero h0
    clear ho h0
    have heq := fun w : World => run_eql_slice_nil (P := Try.prog) w 26 3 none 0 0 Try.underlying26
    go_enter Try.func60, Try.ntmps60
    go_wp2_with fail
    go_ret
    exact ⟨_, rfl, World.ownsRow_nil _ _ _ _, Below.refl _ _⟩
  · have HP := hid (part_own (own_keep ho ((Below.refl _ _).alloc (Nat.le_refl _) (.cells #[] 3))))
    have hown : (w.alloc (.cells #[] 3)).ownsRow w.heap.size 3 1 (.slice (some ⟨w.heap.size, 0, none⟩) 0 0) 0 (ints []) := own_lit w _ #[] (Nat.le_refl _) rfl (by decide)
    clear ho
    have heq := fun w : World => run_eql_slice_nil (P := Try.prog) w 26 3 (some ⟨g, 0, none⟩) l.length cap Try.underlying26
    go_enter Try.func60, Try.ntmps60
    go_wp2_with (first | (at_builtin; refine app_line rfl (.tmp 5) (.tmp 6) Try.underlying26 Try.infoInt rfl (by decide) rfl w.heap.size _ _ [] rfl hown (some ⟨g, 0, none⟩) l.length cap l rfl HP.out (by omega) (by simp) ?_; intro v4 w4 hown4 hgrow4; have HB4 := hid (below_app ((Below.refl w.heap.size w).alloc (Nat.le_refl _) _) hown hgrow4 (Nat.le_refl _) (by simp))))
    go_ret
    rw [Nat.zero_add, List.nil_append] at hown4
    exact ⟨_, rfl, hown4, HB4.out⟩
end Go.Proofs.Ytaoddenadfmdbaa
