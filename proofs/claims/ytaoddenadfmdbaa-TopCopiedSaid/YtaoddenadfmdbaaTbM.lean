/- WALK: total. -/
import Derived.Test.YtaoddenadfmdbaaClosL
import Derived.Test.YtaoddenadfmdbaaAccL
import Derived.Test.YtaoddenadfmdbaaEdL
namespace Go.Proofs.Ytaoddenadfmdbaa
open Go.RowKit Go.Maps
theorem sumM_take {cs : List Cl} {i : Nat} (h : i < cs.length) : sumM (cs.take (i + 1)) = sumM (cs.take i) + (cl cs i).mx.toNat := by
  rw [List.take_add_one, List.getElem?_eq_getElem h, cl_at h]
  unfold sumM
  rw [List.map_append, List.sum_append]
  simp only [Option.toList_some, List.map_cons, List.map_nil, List.sum_cons, List.sum_nil, Nat.add_zero]
theorem sumM_tk_le {cs : List Cl} {n : Nat} (hv : ∀ c ∈ cs, ClOk n c) : ∀ i, i ≤ cs.length → sumM (cs.take i) ≤ 9 * i
  | 0, _ => by simp [sumM]
  | i + 1, h => by
    have h1 := sumM_tk_le hv i (by omega)
    have h2 := (hv _ (List.getElem_mem (show i < cs.length by omega))).hi
    rw [sumM_take (by omega), cl_at (by omega)]
    omega
set_option maxRecDepth 100000 in
set_option maxHeartbeats 1000000 in
theorem total_any {cs : List Cl} {par : List Int} {n B : Nat} {A2 A3 : Option Addr} {c2 c3 gq cq : Nat} {D : DataW Unit} {K : Nat} {rv : Value} (hc : CsOk cs n) (w : World) (h : Sx cs par n B A2 A3 c2 c3 gq cq D K rv w) :
    Calls Try.prog 40 #[.pointer (some ⟨B + 1, 0, none⟩)] w fun e w' => e = .returned (.int .i64 (sumM cs : Nat)) ∧ Below w.heap.size w w' := by
  have pc1 := h.s.cells.c1
  have hcl := hc.len
  obtain ⟨m, hm⟩ : ∃ m, m = cs.length := ⟨_, rfl⟩
  rw [← hm] at pc1 hcl
  have H := hid h; have HM := hid hm; have HC := hid hc
  clear h hm hc
  go_enter Try.func40, Try.ntmps40
  go_wp2_with fail
  clear pc1
  go_loopw [2, 10] (fun v2 iv wr => ∃ i : Nat, i ≤ m ∧ iv = .int .i64 (i : Int) ∧ v2 = .int .i64 (sumM (cs.take i) : Nat) ∧ Hid (Below w.heap.size w wr)) (fun _ iv _ => m - (intOf iv).toNat)
  case atStart => exact ⟨0, by omega, rfl, rfl, hid (Below.refl _ _)⟩
  case round =>
    obtain ⟨i, hi, rfl, rfl, hB⟩ := hrel
    by_cases him : i < m
    · have hic : i < cs.length := by rw [← HM.out]; exact him
      obtain ⟨bA, oA, rfl, hbA, hcla⟩ := (H.out.below hB.out).cl.at (by omega)
      have hca := hcla i hic
      rw [← cl_at hic] at hca
      have pmn := hca.mn; have pmx := hca.mx; have psg := hca.sg
      have hck := HC.out.ok _ (List.getElem_mem hic)
      rw [← cl_at hic] at hck
      have h9 := hck.hi; have h0 := hck.lo; have h1 := hck.le
      have hst := sumM_take hic
      have hsl := sumM_tk_le HC.out.ok i (by omega)
      obtain ⟨mX, hmX⟩ : ∃ k : Nat, (cl cs i).mx = (k : Int) := ⟨(cl cs i).mx.toNat, by omega⟩
      rw [hmX] at pmx hst h9
      obtain ⟨mN, hmN⟩ : ∃ k : Int, k = (cl cs i).mn := ⟨_, rfl⟩
      rw [← hmN] at pmn
      obtain ⟨sa, hsa⟩ : ∃ s, s = (cl cs i).sa := ⟨_, rfl⟩
      obtain ⟨sc, hsc⟩ : ∃ s, s = (cl cs i).sc := ⟨_, rfl⟩
      obtain ⟨sl, hsl2⟩ : ∃ s, s = (cl cs i).signs.length := ⟨_, rfl⟩
      rw [← hsa, ← hsc, ← hsl2] at psg
      obtain ⟨s0, hs0⟩ : ∃ s, s = sumM (cs.take i) := ⟨_, rfl⟩
      rw [← hs0] at hst hsl ⊢
      have HST := hid hst
      have q0 : (i : Int) < (m : Int) := by omega
      have hb5 : Below wr.heap.size wr (wr.alloc (.cells #[.int .i64 mN, .int .i64 (mX : Int), .slice sa sl sc] 30)) := (Below.refl _ _).alloc (Nat.le_refl _) _
      have HB5 := hid (hB.out.trans (hb5.mono hB.out.size))
      have hw : wrap64 ((s0 : Int) + (mX : Int)) = ((s0 + mX : Nat) : Int) := by unfold wrap64; omega
      clear hca hcla hck h0 h1 hst hmX hmN hsa hsc hsl2 hs0 hic hb5 hB
      go_wp2_with fail
      go_roundw
      case rel => exact ⟨i + 1, by omega, by go_num, by rw [HST.out]; first | rfl | (push_cast; rfl), HB5⟩
      case measure => simp [intOf]; omega
    · obtain rfl : i = m := by omega
      have e0 : decide ((i : Int) < (i : Int)) = false := by simp
      have HT := hid (show cs.take i = cs by rw [HM.out]; simp)
      rw [HT.out]
      go_wp2_with fail
      go_ret
      exact ⟨rfl, hB.out⟩
end Go.Proofs.Ytaoddenadfmdbaa

/- BASE: a table in memory. -/
namespace Go.Proofs.Ytaoddenadfmdbaa
open Go.RowKit Go.Maps
theorem w64 {x : Int} (h : -9000000000000000000 ≤ x ∧ x ≤ 9000000000000000000) : wrap64 x = x := by unfold wrap64; omega
/-- One number of a table in memory. -/
def TabAt (W : World) (g m x j v : Nat) : Prop := ∃ gx cx, W.cell? ⟨g, x, none⟩ = some (.slice (some ⟨gx, 0, none⟩) (m + 1) cx) ∧ W.cell? ⟨gx, j, none⟩ = some (.int .i64 (v : Int))
theorem cell_lt {W : World} {p : Addr} {v : Value} (h : W.cell? p = some v) : p.block < W.heap.size := by
  unfold World.cell? at h
  by_cases hb : p.block < W.heap.size
  · exact hb
  · rw [Array.getElem?_eq_none (by omega)] at h
    cases h
theorem cell_keep {W W' : World} {p : Addr} {v : Value} (hb : Below W.heap.size W W') (h : W.cell? p = some v) : W'.cell? p = some v := (hb.cell (cell_lt h)).trans h
theorem TabAt.below {W W' : World} {g m x j v : Nat} (hb : Below W.heap.size W W') (h : TabAt W g m x j v) : TabAt W' g m x j v := by
  obtain ⟨gx, cx, h1, h2⟩ := h
  exact ⟨gx, cx, cell_keep hb h1, cell_keep hb h2⟩
/-- The tables in memory: R of them. -/
def RsAt (W : World) (rv : Value) (R np m : Nat) (T : Nat → Nat → Nat → Nat) : Prop := ∃ gr cr, rv = .slice (some ⟨gr, 0, none⟩) R cr ∧ ∀ r, r < R → ∃ g' c', W.cell? ⟨gr, r, none⟩ = some (.slice (some ⟨g', 0, none⟩) np c') ∧ ∀ x j, x < np → j ≤ m → TabAt W g' m x j (T r x j)
theorem RsAt.below {W W' : World} {rv : Value} {R np m : Nat} {T : Nat → Nat → Nat → Nat} (hb : Below W.heap.size W W') (h : RsAt W rv R np m T) : RsAt W' rv R np m T := by
  obtain ⟨gr, cr, h1, h2⟩ := h
  refine ⟨gr, cr, h1, fun r hr => ?_⟩
  obtain ⟨g', c', h3, h4⟩ := h2 r hr
  exact ⟨g', c', cell_keep hb h3, fun x j hx hj => (h4 x j hx hj).below hb⟩
end Go.Proofs.Ytaoddenadfmdbaa

/- PLAIN LAW: the table of the fewest changes from a position and a place on is a lower bound. No program in sight. -/
namespace Go.Proofs.Ytaoddenadfmdbaa
def alC0 (c : Cl) (s : Int) : Nat := if alw c s = true then 0 else 1
/-- What one number of the table is no greater than: tab: the numbers of the same table that are known; prev: those of the table before. -/
structure LstOk (cs : List Cl) (par : List Int) (tab prev : Nat → Nat → Nat) (r x j v : Nat) : Prop where
  bd : v ≤ 1048576
  fin : (posAt cs x).1 = cs.length → r = 0 → v ≤ par.length - j
  eps : (posAt cs x).1 < cs.length → (cl cs (posAt cs x).1).mn ≤ ((posAt cs x).2 : Int) → v ≤ tab (num cs ((posAt cs x).1 + 1) 0) j
  ins : (posAt cs x).1 < cs.length → j < par.length → v ≤ 1 + tab x (j + 1)
  del : (posAt cs x).1 < cs.length → ((posAt cs x).2 : Int) < (cl cs (posAt cs x).1).mx → 0 < r → v ≤ 1 + prev (x + 1) j
  sub : (posAt cs x).1 < cs.length → ((posAt cs x).2 : Int) < (cl cs (posAt cs x).1).mx → 0 < r → j < par.length → v ≤ alC0 (cl cs (posAt cs x).1) (par.getD j 0) + prev (x + 1) (j + 1)
/-- The tables up to R. -/
def TOk (cs : List Cl) (par : List Int) (R : Nat) (T : Nat → Nat → Nat → Nat) : Prop := ∀ r x j, r ≤ R → x < (posL cs).length → j ≤ par.length → LstOk cs par (T r) (T (r - 1)) r x j (T r x j)
theorem drop_at {par : List Int} {j : Nat} (h : j < par.length) : par.drop j = par.getD j 0 :: par.drop (j + 1) := by rw [List.drop_eq_getElem_cons h]; simp [List.getD, h]
theorem tab_low {cs : List Cl} {par : List Int} {R : Nat} {T : Nat → Nat → Nat → Nat} (h : TOk cs par R T) {i k : Nat} {S : List Int} (ha : Acc cs i k S) : PosOk cs i k → S.length ≤ R → ∀ j, j ≤ par.length → T S.length (num cs i k) j ≤ ED S (par.drop j) := by
  induction ha with
  | fin =>
    intro hp hR j hj
    have h1 := (h 0 (num cs cs.length 0) j (Nat.zero_le _) (num_lt hp) hj).fin (by rw [posAt_num hp]) rfl
    rw [ED_nil, List.length_drop]
    exact h1
  | @eps i k S hi hk _ ih =>
    intro hp hR j hj
    have h1 := (h S.length (num cs i k) j hR (num_lt hp) hj).eps (by rw [posAt_num hp]; exact hi) (by rw [posAt_num hp]; exact hk)
    rw [posAt_num hp] at h1
    exact Nat.le_trans h1 (ih (next_ok hi) hR j hj)
  | @sgn i k a S hi hk haw _ ih =>
    intro hp hR
    rw [List.length_cons] at hR ⊢
    have hp2 : PosOk cs i (k + 1) := .inl ⟨hi, by omega⟩
    have ih := ih hp2 (by omega)
    rw [num_next] at ih
    have key : ∀ q j, j + q = par.length → T (S.length + 1) (num cs i k) j ≤ ED (a :: S) (par.drop j) := by
      intro q
      induction q with
      | zero =>
        intro j hj
        have h1 := (h (S.length + 1) (num cs i k) j hR (num_lt hp) (by omega)).del (by rw [posAt_num hp]; exact hi) (by rw [posAt_num hp]; exact hk) (by omega)
        rw [Nat.add_sub_cancel] at h1
        have h2 := ih j (by omega)
        rw [List.drop_of_length_le (by omega)] at h2 ⊢
        rw [ED_right_nil] at h2
        rw [ED_cons_nil]
        omega
      | succ q ihq =>
        intro j hj
        have hlt : j < par.length := by omega
        have H := h (S.length + 1) (num cs i k) j hR (num_lt hp) (by omega)
        have h1 := H.del (by rw [posAt_num hp]; exact hi) (by rw [posAt_num hp]; exact hk) (by omega)
        have h2 := H.sub (by rw [posAt_num hp]; exact hi) (by rw [posAt_num hp]; exact hk) (by omega) hlt
        have h3 := H.ins (by rw [posAt_num hp]; exact hi) hlt
        rw [Nat.add_sub_cancel] at h1 h2
        rw [posAt_num hp] at h2
        have i1 := ih j (by omega)
        have i2 := ih (j + 1) (by omega)
        have i3 := ihq (j + 1) (by omega)
        have hc : alC0 (cl cs i) (par.getD j 0) ≤ df a (par.getD j 0) := by
          unfold alC0 df
          by_cases e : a = par.getD j 0
          · rw [if_pos e, ← e, if_pos haw]; exact Nat.le_refl _
          · rw [if_neg e]; split <;> omega
        simp only [] at h2
        rw [drop_at hlt] at i1 ⊢
        rw [ED_cons_cons]
        omega
    intro j hj
    exact key (par.length - j) j (by omega)
/-- The bound of a set and a row. -/
def bndOk (_cs : List Cl) (par : List Int) (S : List Nat) (row : List Nat) (f : Nat → Nat → Nat) (v : Nat) : Prop := ∀ x ∈ S, ∀ j, j ≤ par.length → v ≤ row.getD j 0 + f x j
/-- No line that a set leads to is cut off. -/
theorem bound_low {cs : List Cl} {par : List Int} {R : Nat} {T : Nat → Nat → Nat → Nat} (h : TOk cs par R T) {S : List Nat} (hS : SetOk cs S) {P U : List Int} {v : Nat} (hU : lang cs S U) (hR : U.length ≤ R) (hb : bndOk cs par S (rowOf par P) (T U.length) v) : v ≤ FE par (P ++ U) := by
  obtain ⟨x, hx, ha⟩ := hU
  obtain ⟨j, hj, hs⟩ := split_all par U P
  have h1 := tab_low h ha (posAt_ok (hS x hx)) hR j hj
  rw [num_posAt (hS x hx)] at h1
  have h2 := hb x hx j hj
  omega
end Go.Proofs.Ytaoddenadfmdbaa

/- PLAIN LAW: the tables as they are filled, from the last position and place on. -/
namespace Go.Proofs.Ytaoddenadfmdbaa
theorem LstOk.congr {cs : List Cl} {par : List Int} {tab tab' prev prev' : Nat → Nat → Nat} {r x j v : Nat} (h : LstOk cs par tab prev r x j v) (h1 : (posAt cs x).1 < cs.length → tab (num cs ((posAt cs x).1 + 1) 0) j = tab' (num cs ((posAt cs x).1 + 1) 0) j) (h2 : j < par.length → tab x (j + 1) = tab' x (j + 1)) (h3 : 0 < r → ∀ b, prev (x + 1) b = prev' (x + 1) b) : LstOk cs par tab' prev' r x j v :=
  ⟨h.bd, h.fin, fun a b => by rw [← h1 a]; exact h.eps a b, fun a b => by rw [← h2 b]; exact h.ins a b, fun a b c => by rw [← h3 c]; exact h.del a b c, fun a b c d => by rw [← h3 c]; exact h.sub a b c d⟩
theorem num_gt {cs : List Cl} {x : Nat} (hx : x < (posL cs).length) (hi : (posAt cs x).1 < cs.length) : x < num cs ((posAt cs x).1 + 1) 0 := by
  have h1 := num_posAt hx
  have h2 := posAt_ok hx
  unfold num at h1 ⊢
  rw [posTo_len_s]
  rcases h2 with ⟨_, h3⟩ | ⟨h3, _⟩ <;> omega
/-- The table with the row x as it is now. -/
def comb (tb : Nat → Nat → Nat) (x : Nat) (f : Nat → Nat) : Nat → Nat → Nat := fun a b => if a = x then f b else tb a b
theorem comb_self (tb : Nat → Nat → Nat) (x : Nat) (f : Nat → Nat) (b : Nat) : comb tb x f x b = f b := if_pos rfl
theorem comb_other {tb : Nat → Nat → Nat} {x a : Nat} (h : a ≠ x) (f : Nat → Nat) (b : Nat) : comb tb x f a b = tb a b := if_neg h
def upd (f : Nat → Nat) (j v : Nat) : Nat → Nat := fun b => if b = j then v else f b
theorem upd_self (f : Nat → Nat) (j v : Nat) : upd f j v j = v := if_pos rfl
theorem upd_other {f : Nat → Nat} {j b : Nat} (h : b ≠ j) (v : Nat) : upd f j v b = f b := if_neg h
/-- The numbers of a table from the position q on are right. -/
def FromX (cs : List Cl) (par : List Int) (tb prev : Nat → Nat → Nat) (r q : Nat) : Prop := ∀ x j, q ≤ x → x < (posL cs).length → j ≤ par.length → LstOk cs par tb prev r x j (tb x j)
/-- .. and of the row x those from the place p on. -/
def FromJ (cs : List Cl) (par : List Int) (tb prev : Nat → Nat → Nat) (r x p : Nat) (f : Nat → Nat) : Prop := ∀ j, p ≤ j → j ≤ par.length → LstOk cs par (comb tb x f) prev r x j (f j)
theorem FromJ.step {cs : List Cl} {par : List Int} {tb prev : Nat → Nat → Nat} {r x j v : Nat} {f : Nat → Nat} (hx : x < (posL cs).length) (h : FromJ cs par tb prev r x (j + 1) f) (hv : LstOk cs par (comb tb x f) prev r x j v) : FromJ cs par tb prev r x j (upd f j v) := fun b h1 h2 => by
  by_cases e : b = j
  · subst e
    rw [upd_self]
    refine hv.congr (fun hi => ?_) (fun _ => ?_) (fun _ _ => rfl)
    · have := num_gt hx hi
      rw [comb_other (by omega), comb_other (by omega)]
    · rw [comb_self, comb_self, upd_other (by omega)]
  · rw [upd_other e]
    refine (h b (by omega) h2).congr (fun hi => ?_) (fun _ => ?_) (fun _ _ => rfl)
    · have := num_gt hx hi
      rw [comb_other (by omega), comb_other (by omega)]
    · rw [comb_self, comb_self, upd_other (by omega)]
theorem FromX.step {cs : List Cl} {par : List Int} {tb prev : Nat → Nat → Nat} {r x : Nat} {f : Nat → Nat} (h : FromX cs par tb prev r (x + 1)) (hf : FromJ cs par tb prev r x 0 f) : FromX cs par (comb tb x f) prev r x := fun y j h1 h2 h3 => by
  by_cases e : y = x
  · subst e
    rw [comb_self]
    exact hf j (Nat.zero_le _) h3
  · rw [comb_other e]
    refine (h y j (by omega) h2 h3).congr (fun hi => ?_) (fun _ => ?_) (fun _ _ => rfl)
    · have := num_gt h2 hi
      rw [comb_other (by omega)]
    · rw [comb_other e]
/-- The tables with the table r as it is now. -/
def combT (T : Nat → Nat → Nat → Nat) (r : Nat) (tb : Nat → Nat → Nat) : Nat → Nat → Nat → Nat := fun q => if q = r then tb else T q
theorem combT_self (T : Nat → Nat → Nat → Nat) (r : Nat) (tb : Nat → Nat → Nat) : combT T r tb r = tb := if_pos rfl
theorem combT_other {T : Nat → Nat → Nat → Nat} {r q : Nat} (h : q ≠ r) (tb : Nat → Nat → Nat) : combT T r tb q = T q := if_neg h
/-- The tables below R are right. -/
def FromT (cs : List Cl) (par : List Int) (R : Nat) (T : Nat → Nat → Nat → Nat) : Prop := ∀ r x j, r < R → x < (posL cs).length → j ≤ par.length → LstOk cs par (T r) (T (r - 1)) r x j (T r x j)
theorem FromT.step {cs : List Cl} {par : List Int} {R : Nat} {T : Nat → Nat → Nat → Nat} {tb : Nat → Nat → Nat} (h : FromT cs par R T) (ht : FromX cs par tb (T (R - 1)) R 0) : FromT cs par (R + 1) (combT T R tb) := fun r x j h1 h2 h3 => by
  by_cases e : r = R
  · subst e
    rw [combT_self]
    refine (ht x j (Nat.zero_le _) h2 h3).congr (fun _ => rfl) (fun _ => rfl) (fun hr b => ?_)
    rw [combT_other (by omega)]
  · rw [combT_other e]
    refine (h r x j (by omega) h2 h3).congr (fun _ => rfl) (fun _ => rfl) (fun hr b => ?_)
    rw [combT_other (by omega)]
theorem FromT.tok {cs : List Cl} {par : List Int} {R : Nat} {T : Nat → Nat → Nat → Nat} (h : FromT cs par (R + 1) T) : TOk cs par R T := fun r x j h1 h2 h3 => h r x j (by omega) h2 h3
end Go.Proofs.Ytaoddenadfmdbaa
