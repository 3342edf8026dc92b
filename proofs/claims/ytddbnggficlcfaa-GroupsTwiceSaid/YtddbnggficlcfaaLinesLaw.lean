/- ostraconref02.Order. -/
import Derived.Test.YtddbnggficlcfaaLinesE
import Derived.Test.YtddbnggficlcfaaSameT
import Derived.ChangeKeysEq
import Derived.Test.YtddbnggficlcfaaArgs
import Derived.Test.YtddbnggficlcfaaKidsLaw
namespace Go.Proofs.Ytddbnggficlcfaa
open Go.RowKit Go.Shelf
set_option maxRecDepth 100000 in
set_option maxHeartbeats 8000000 in
theorem refOrder_any (P : Int) (ss : List Sg) (l : List Nd) (hN : ss.length ≤ 1000000) (hv : ∀ s ∈ ss, s.vals.length ≤ 1000000) (hn : l.length ≤ 1000000) (A A2 : Option Addr) (c c2 : Nat) (w : World) (rs : Sgs w w.heap.size A ss) (rn : Nds w w.heap.size A2 l) :
    Calls Try.prog 31 #[.agg #[.int .i64 P, .slice A ss.length c], .agg #[.slice A2 l.length c2]] w (IntsPost (ordE P ss l) (ordL P ss l) w) := by
  obtain ⟨w1, hw1⟩ : ∃ w1, w1 = (w.alloc (.cells #[.int .i64 P, .slice A ss.length c] 24)).alloc (.cells #[.slice A2 l.length c2] 27) := ⟨_, rfl⟩
  have hb1 : Below w.heap.size w w1 := by rw [hw1]; exact ((Below.refl _ _).alloc (Nat.le_refl _) _).alloc (by simp) _
  have hz1 : w1.heap.size = w.heap.size + 2 := by rw [hw1]; simp
  have c0 : w1.cell? ⟨w.heap.size, 0, none⟩ = some (.int .i64 P) := by rw [hw1]; exact cell_old (cell_here rfl rfl)
  have c1 : w1.cell? ⟨w.heap.size, 1, none⟩ = some (.slice A ss.length c) := by rw [hw1]; exact cell_old (cell_here rfl rfl)
  have c3 : w1.cell? ⟨w.heap.size + 1, 0, none⟩ = some (.slice A2 l.length c2) := by rw [hw1]; exact cell_here (by simp) rfl
  have HLI := hid (refLine_any P ss l hN hv hn A A2 c c2 w1 ((rs.below hb1).more (by omega)) ((rn.below hb1).more (by omega)))
  have hml : (marks l).length ≤ 1000000 := by
    have := leaves_len l
    unfold marks
    rw [List.length_map]
    omega
  have m1 := ordE_bad (P := P) (ss := ss) (l := l); have m2 := ordE_gap (P := P) (ss := ss) (l := l); have m3 := ordE_ok (P := P) (ss := ss) (l := l)
  have m4 := linL_bad (P := P) (ss := ss) (l := l); have m5 := linL_ok (P := P) (ss := ss) (l := l)
  generalize linL P ss l = LL at HLI m4 m5
  generalize ordE P ss l = E at m1 m2 m3 ⊢
  generalize ordL P ss l = L at m1 m2 m3 ⊢
  generalize chkE P ss l = CE at HLI m1 m2 m3 m4 m5
  generalize ss.length = N at HLI c1 hw1 ⊢
  generalize l.length = n at HLI c3 hw1 ⊢
  generalize marks l = ms at m2 m3 m5 hml
  obtain ⟨nm, hnm⟩ : ∃ nm, nm = ms.length := ⟨_, rfl⟩
  rw [← hnm] at hml
  have HW1 := hid hw1; have HB1 := hid hb1; have HNM := hid hnm
  have M1 := hid m1; have M2 := hid m2; have M3 := hid m3; have M4 := hid m4; have M5 := hid m5
  have HW : Hid (∀ wr, Below w1.heap.size w1 wr → Below w.heap.size w wr) := fun wr h => hb1.trans (h.mono (by omega))
  clear hw1 hb1 hz1 m1 m2 m3 m4 m5 rs rn hv hN hnm
  go_enter Try.func31, Try.ntmps31
  go_upto_region 1 with (fail)
  rw [← HW1.out]
  clear HW1
  obtain ⟨B0, hB0⟩ : ∃ B0, B0 = w.heap.size := ⟨_, rfl⟩
  obtain ⟨B1, hB1⟩ : ∃ B1, B1 = B0 + 1 := ⟨_, rfl⟩
  rw [← hB0] at c0 c1 c3 ⊢
  rw [← hB1] at c3 ⊢
  clear hB0 hB1
  by_cases hCE : CE = 0
  · have f0 : (CE != 0) = false := by simp [hCE]
    obtain rfl := M5.out hCE
    replace M2 := hid (M2.out hCE); replace M3 := hid (M3.out hCE)
    clear M1 M4 M5
    subst hCE
    go_wp2_with (first | (go_at_call 29; refine HLI.out.mono ?_; rintro e w3 ⟨v3, rfl, ho3, hb3⟩; rw [← HNM.out] at ho3; obtain ⟨A3, c3', rfl⟩ := own_slice ho3; have HM := hid (show Mks w3 w3.heap.size A3 LL from by unfold Mks; rw [← HNM.out]; exact Reads.of_own ho3); have HB3 := hid hb3; clear ho3 hb3 c0 c1 c3 HLI))
    go_loopw [8, 9] (fun vv kv wr => ∃ k : Nat, k ≤ nm ∧ kv = .int .i64 k ∧ Hid (∀ m ∈ LL.take k, ¬ m.sign < 0) ∧ Hid (wr.ownsRow w3.heap.size 3 1 vv (sgns (LL.take k)).length (ints (sgns (LL.take k)))) ∧ Hid (Below w3.heap.size w3 wr)) (fun _ kv _ => nm - (intOf kv).toNat)
    case atStart => exact ⟨0, by omega, rfl, hid (fun m hm => by simp at hm), World.ownsRow_nil _ _ _ _, Below.refl _ _⟩
    case round =>
      obtain ⟨k, hk, rfl, hP, hO, hB⟩ := hrel
      obtain ⟨A5, c5, rfl⟩ := own_slice hO.out
      have HBW := hid (HW.out _ (HB3.out.trans (hB.out.mono HB3.out.size)))
      by_cases hkn : k < nm
      · have hkl : k < LL.length := by rw [← HNM.out]; exact hkn
        have hq : (k : Int) < (nm : Int) := by omega
        obtain ⟨b, o, rfl, hb, hc⟩ := HM.out.at (by omega)
        have hx := (hc k hkl).below hB.out hb
        have hst : LL.take (k + 1) = LL.take k ++ [LL[k]'hkl] := by rw [List.take_add_one, List.getElem?_eq_getElem hkl, Option.toList_some]
        have hlen : (LL.take k).length = k := by rw [List.length_take]; omega
        have hng : (LL[k]'hkl).sign < 0 → ¬ noGap LL := fun h h2 => h2 _ (List.getElem_mem hkl) h
        generalize LL[k]'hkl = m at hx hst hng
        obtain ⟨m1, m2, m3, m4⟩ := m
        have d1 := hx.sign; have d2 := hx.state; have d3 := hx.mn; have d4 := hx.mx
        simp only [] at d1 d2 d3 d4 hng
        by_cases hneg : m1 < 0
        · have f1 : decide (m1 < 0) = true := decide_eq_true hneg
          obtain ⟨x1, x2⟩ := M2.out (hng hneg)
          have X1 := hid x1; have X2 := hid x2
          clear M2 M3 x1 x2 hng hst hx hc hP
          go_wp2_with fail
          go_ret2
          exact ⟨.slice none 0 0, by rw [X1.out]; rfl, by rw [X2.out]; exact World.ownsRow_nil _ _ _ _, HBW.out⟩
        · have f1 : decide (m1 < 0) = false := decide_eq_false hneg
          have hP2 : ∀ m ∈ LL.take (k + 1), ¬ m.sign < 0 := fun m hm => by
            rw [hst] at hm
            rcases List.mem_append.1 hm with hm | hm
            · exact hP.out m hm
            · obtain rfl := List.mem_singleton.1 hm
              exact hneg
          have hs2 : sgns (LL.take (k + 1)) = sgns (LL.take k) ++ [m1] := by rw [hst]; unfold sgns; rw [List.map_append]; rfl
          have hsl : (sgns (LL.take k)).length = k := by unfold sgns; rw [List.length_map, hlen]
          have HP2 := hid hP2; have HS2 := hid hs2; have HSL := hid hsl
          have ho2 := hO.out
          rw [hsl] at ho2
          have HO2 := hid ho2
          have hz : w3.heap.size ≤ wr.heap.size := hB.out.size
          clear hP hO hP2 hs2 hsl ho2 hst hx hc hng hlen M2 M3
          rw [HSL.out]
          have HBA := hid fun (x : Obj) => (hB.out.alloc hB.out.size x)
          go_wp2_with (first | (at_builtin; refine app_one rfl (.tmp 31) (.tmp 37) Try.underlying38 Try.infoInt rfl (by decide) rfl w3.heap.size _ k _ rfl (HO2.out.alloc _) ⟨wr.heap.size, 0, none⟩ (.int .i64 m1) rfl (cell_new1 _ _ _) rfl (by omega) (by simp; omega) ?_; intro v6 w6 ho6 hg6; have HO6 := hid ho6; have HB6 := hid (below_app (HBA.out _) (HO2.out.alloc _) hg6 (Nat.le_refl _) (by simp; omega)); clear ho6 hg6))
          go_roundw
          case rel => exact ⟨k + 1, by omega, by go_num, HP2.out, by rw [HS2.out, List.length_append, ints_append, HSL.out]; exact HO6.out, HB6.out⟩
          case measure => simp [intOf]; omega
      · obtain rfl : nm = k := by omega
        have hfull : LL.take nm = LL := by rw [HNM.out, List.take_length]
        have hP2 := hP.out; have hO2 := hO.out
        rw [hfull] at hP2 hO2
        obtain ⟨x1, x2⟩ := M3.out hP2
        have X1 := hid x1; have X2 := hid x2; have HO2 := hid (own_base hO2 (HW.out _ HB3.out).size)
        have hl : (sgns (LL.take nm)).length = (sgns LL).length := by rw [hfull]
        have HL := hid hl
        clear M2 M3 x1 x2 hfull hP2 hO2 hP hO hl
        go_wp2_with fail
        go_ret2
        exact ⟨.slice A5 (sgns (List.take nm LL)).length c5, by rw [X1.out]; rfl, by rw [X2.out, HL.out]; exact HO2.out, HBW.out⟩
  · have f0 : (CE != 0) = true := by simp [hCE]
    obtain ⟨x1, x2⟩ := M1.out hCE
    have x3 := M4.out hCE
    have X1 := hid x1; have X2 := hid x2
    subst x3
    clear M1 M2 M3 M4 M5 hCE x1 x2
    go_wp2_with (first | (go_at_call 29; refine HLI.out.mono ?_; rintro e w2 ⟨v2, rfl, ho2, hb2⟩; have HB2 := hid hb2; clear ho2 hb2 HLI c0 c1 c3))
    go_ret2
    exact ⟨.slice none 0 0, by rw [X1.out]; rfl, by rw [X2.out]; exact World.ownsRow_nil _ _ _ _, HW.out _ HB2.out⟩
end Go.Proofs.Ytddbnggficlcfaa

/- WALK: groups.rings: the rings of a valid text. -/
namespace Go.Proofs.Ytddbnggficlcfaa
open Go.RowKit Go.Shelf
/-- Pairs of numbers as cells. -/
def cells2 (p : Int × Int) : List Value := [.int .i64 p.1, .int .i64 p.2]
def flat2 (l : List (Int × Int)) : List Value := l.flatMap cells2
theorem flat2_app (xs ys : List (Int × Int)) : flat2 (xs ++ ys) = flat2 xs ++ flat2 ys := by unfold flat2; rw [List.flatMap_append]
theorem flat2_len (l : List (Int × Int)) : (flat2 l).length = l.length * 2 := by
  unfold flat2
  induction l with
  | nil => rfl
  | cons a l ih => rw [List.flatMap_cons, List.length_append, ih, List.length_cons]; simp only [cells2, List.length_cons, List.length_nil]; omega
def spOf (r : Nat × Nat × Nat) : Int × Int := (r.2.1, r.2.2)
theorem Try.infoSpan : (Try.prog.info? 95).map (fun i => (i.zero, i.size, i.bytes)) = some (some (.agg #[.int .i64 0, .int .i64 0]), 2, 16) := by kernel_rfl
theorem Try.infoPair : (Try.prog.info? 72).map (fun i => (i.zero, i.size, i.bytes)) = some (some (.agg #[.int .i64 0, .int .i64 0]), 2, 16) := by kernel_rfl
theorem wp_two {t T : TypeId} (ht : Try.prog.underlying T = some (.slice t)) (hinfo : (Try.prog.info? t).map (fun i => (i.zero, i.size, i.bytes)) = some (some (.agg #[.int .i64 0, .int .i64 0]), 2, 16)) {o : Oper} {a : Act} {w : World} {K : Act → World → Prop} {Q : Exit → Act → World → Prop} (s x : Operand)
    (ho : o.op = .call { callee := .builtin .append, args := #[s, x], argTypes := #[T, T] })
    (base : Nat) (v : Value) (n : Nat) (xs : List (Int × Int)) (hs : a.eval s = v) (hown : w.ownsRow base t 2 v n (flat2 xs))
    (ad : Addr) (m : Int × Int) (hx : a.eval x = .slice (some ad) 1 1) (hp : ∀ j u, (cells2 m)[j]? = some u → w.cell? (ad.add j) = some u) (hn : n ≤ 1000000) (hbase : base ≤ w.heap.size)
    (h : ∀ v' w', w'.ownsRow base t 2 v' (n + 1) (flat2 (xs ++ [m])) → w.grownBy w' v.ownBlock → K (a.put o.dst v') w') :
    o.wp Try.prog a w K Q := by
  obtain ⟨i0, hi, hz0, hzz, hz2⟩ := info_parts hinfo
  refine wp_append_own w s x _ ho base _ i0 _ 2 16 ht hi hz0 hzz hz2 rfl (by decide) v n (flat2 xs) hs hown ad 1 1 (cells2 m) hx rfl hp (fun u hu => ?_) (by unfold maxLen; omega) (by omega) hbase (fun v' w' a b _ => h v' w' (by rw [flat2_app]; simpa [flat2] using a) b)
  simp only [cells2, List.mem_cons, List.not_mem_nil, or_false] at hu
  rcases hu with rfl | rfl <;> rfl
/-- What rings keeps: the text's box, the cell of the spans, the spans. -/
structure LR (l : List Nd) (A : Option Addr) (c B0 : Nat) (w : World) (ls : List (Nat × Nat × Nat)) (W : World) : Prop where
  t_ : W.heap[B0]? = some (.cells #[.slice A l.length c] 27 (0, 0))
  o_ : ∃ v, W.heap[B0 + 1]? = some (.cells #[v] 47 (0, 0)) ∧ W.ownsRow (B0 + 7) 95 2 v ls.length (flat2 (ls.map spOf))
  bel : Below B0 w W
theorem LR.below {l : List Nd} {A : Option Addr} {c B0 : Nat} {w : World} {ls : List (Nat × Nat × Nat)} {W W' : World} (h : LR l A c B0 w ls W) (hb : Below W.heap.size W W') : LR l A c B0 w ls W' := by
  obtain ⟨v, h1, h2⟩ := h.o_
  exact ⟨(hb.block _ (lt_of_block h.t_)).trans h.t_, ⟨v, (hb.block _ (lt_of_block h1)).trans h1, own_keep h2 hb⟩, h.bel.trans (hb.mono (by have := lt_of_block h.t_; omega))⟩
theorem LR.read {l : List Nd} {A : Option Addr} {c B0 : Nat} {w : World} {ls : List (Nat × Nat × Nat)} {W : World} (h : LR l A c B0 w ls W) (v : Value) : LR l A c B0 w ls (W.setCell ⟨B0 + 2 + 3, 0, none⟩ v) := by
  obtain ⟨u, h1, h2⟩ := h.o_
  exact ⟨(Below.heap_setCell _ _ _ _ (by simp <;> omega)).trans h.t_, ⟨u, (Below.heap_setCell _ _ _ _ (by simp <;> omega)).trans h1, ownsRow_setCell_other h2 (a := ⟨B0 + 2 + 3, 0, none⟩) (fun he => by have := (h2.lt _ he).1; simp at this; omega) v⟩, h.bel.setCell (by simp; omega) _⟩
/-- The step of rings$2: a span is appended, and its cell is stored. -/
theorem ring_next {l : List Nd} {A : Option Addr} {c n0 B0 : Nat} {i : Nat × Nat × Nat} {w W w3 w4 : World} {ls : List (Nat × Nat × Nat)} {v v4 : Value} {mk : Int × Int} {X : Obj} (hn0 : n0 ≤ B0) (hsz : B0 + 2 + 5 ≤ W.heap.size) (hJ : LR l A c B0 w ls W) (ho : W.heap[B0 + 1]? = some (.cells #[v] 47 (0, 0)))
    (hown : W.ownsRow (B0 + 7) 95 2 v ls.length (flat2 (ls.map spOf))) (hmk : mk = spOf i) (hb3 : Below W.heap.size W w3) (ho4 : w4.ownsRow (B0 + 7) 95 2 v4 (ls.length + 1) (flat2 (ls.map spOf ++ [mk]))) (hg4 : (w3.alloc X).grownBy w4 v.ownBlock) :
    (w4.cell? ⟨B0 + 1, 0, none⟩ = some v ∧ w4.frozen? ⟨B0 + 1, 0, none⟩ = false) ∧ LR l A c B0 w (ls ++ [i]) (w4.setCell ⟨B0 + 1, 0, none⟩ v4) ∧ KV n0 (B0 + 2) W (w4.setCell ⟨B0 + 1, 0, none⟩ v4) ∧ (w4.setCell ⟨B0 + 1, 0, none⟩ v4).heap[B0 + 2 + 3]? = W.heap[B0 + 2 + 3]? := by
  have hb : Below W.heap.size W (w3.alloc X) := hb3.alloc hb3.size _
  have hk : ∀ (k : Nat) (o : Obj), W.heap[k]? = some o → (k < B0 + 7 ∨ ∃ (cs : Array Value) (fz : Nat × Nat), o = Obj.cells cs 3 fz) → w4.heap[k]? = some o := fun k o h1 h2 => by
    have h3 := (hb.block k (lt_of_block h1)).trans h1
    refine (hg4.block k (lt_of_block h3) fun e => ?_).trans h3
    rcases hown.2 with ⟨h4, _⟩ | ⟨g, cap, cur, hv, hg, hh, _⟩
    · rw [h4] at e; cases e
    · rw [hv] at e
      injection e with e
      have e2 : k = g := e
      subst e2
      rcases h2 with h2 | ⟨cs, fz, rfl⟩
      · omega
      · rw [hh] at h1
        injection h1 with h1
        injection h1 with _ h1 _
        exact absurd h1 (by decide)
  have hO := hk _ _ ho (.inl (by omega))
  have hset : ∀ k : Nat, k ≠ B0 + 1 → (w4.setCell ⟨B0 + 1, 0, none⟩ v4).heap[k]? = w4.heap[k]? := fun k h => Below.heap_setCell _ _ _ _ h
  have hbel : Below B0 W w4 := (below_app (hb.mono (show B0 ≤ W.heap.size by omega)) (own_keep hown hb) hg4 (by omega) (by have := hb.size; omega))
  have h9 : W.heap[B0 + 2 + 3]? = w4.heap[B0 + 2 + 3]? := by
    have hlt : B0 + 2 + 3 < W.heap.size := by omega
    have h1 : W.heap[B0 + 2 + 3]? = some W.heap[B0 + 2 + 3] := Array.getElem?_eq_getElem hlt
    rw [h1]
    exact (hk _ _ h1 (.inl (by omega))).symm
  refine ⟨⟨cell_of_one hO, free_of_one hO⟩, ⟨?_, ⟨v4, one_setCell hO, ?_⟩, ?_⟩, ⟨?_, fun k o h1 h2 h3 => ?_⟩, ?_⟩
  · rw [hset _ (by omega)]
    exact hk _ _ hJ.t_ (.inl (by omega))
  · rw [List.length_append, List.map_append]
    have := ownsRow_setCell_other ho4 (a := ⟨B0 + 1, 0, none⟩) (fun he => by have := (ho4.lt _ he).1; simp at this <;> omega) v4
    rw [hmk] at this
    exact this
  · exact hJ.bel.trans (hbel.setCell (by simp) _)
  · exact (hbel.mono hn0).setCell (by simp; omega) _
  · rcases h2 with h2 | h2
    · rw [hset _ (by omega)]
      exact hk _ _ h3 (.inl (by omega))
    · obtain ⟨cs, fz, rfl⟩ := h2
      rw [hset _ (fun e => ?_)]
      · exact hk _ _ h3 (.inr ⟨cs, fz, rfl⟩)
      · subst e
        rw [ho] at h3
        injection h3 with h3
        injection h3 with _ h3 _
        exact absurd h3 (by decide)
  · rw [hset _ (by omega)]
    exact h9.symm
theorem app_two {t T : TypeId} (ht : Try.prog.underlying T = some (.slice t)) (hinfo : (Try.prog.info? t).map (fun i => (i.zero, i.size, i.bytes)) = some (some (.agg #[.int .i64 0, .int .i64 0]), 2, 16)) {ops : Array Oper} {rest : List Oper} {o : Oper} {a : Act} {w : World} {Q : Exit → Act → World → Prop} (hgd : o.guard = none) (s x : Operand)
    (ho : o.op = .call { callee := .builtin .append, args := #[s, x], argTypes := #[T, T] })
    (base : Nat) (v : Value) (n : Nat) (xs : List (Int × Int)) (hs : a.eval s = v) (hown : w.ownsRow base t 2 v n (flat2 xs))
    (ad : Addr) (m : Int × Int) (hx : a.eval x = .slice (some ad) 1 1) (hp : ∀ j u, (cells2 m)[j]? = some u → w.cell? (ad.add j) = some u) (hn : n ≤ 1000000) (hbase : base ≤ w.heap.size)
    (h : ∀ v' w', w'.ownsRow base t 2 v' (n + 1) (flat2 (xs ++ [m])) → w.grownBy w' v.ownBlock → wpList Try.prog ops Q rest (a.put o.dst v') w') : wpList Try.prog ops Q (o :: rest) a w :=
  wpList_plain hgd fun _ hK => wp_two ht hinfo s x ho base v n xs hs hown ad m hx hp hn hbase fun v' w' h1 h2 => hK _ _ (h v' w' h1 h2)
theorem step_two {t T : TypeId} (ht : Try.prog.underlying T = some (.slice t)) (hinfo : (Try.prog.info? t).map (fun i => (i.zero, i.size, i.bytes)) = some (some (.agg #[.int .i64 0, .int .i64 0]), 2, 16)) {ops : Array Oper} {o : Oper} {a : Act} {w : World} {K : Act → World → Prop} {Q : Exit → Act → World → Prop} {E : Prop} (hgd : o.guard = none) (s x : Operand)
    (ho : o.op = .call { callee := .builtin .append, args := #[s, x], argTypes := #[T, T] })
    (base : Nat) (v : Value) (n : Nat) (xs : List (Int × Int)) (hs : a.eval s = v) (hown : w.ownsRow base t 2 v n (flat2 xs))
    (ad : Addr) (m : Int × Int) (hx : a.eval x = .slice (some ad) 1 1) (hp : ∀ j u, (cells2 m)[j]? = some u → w.cell? (ad.add j) = some u) (hn : n ≤ 1000000) (hbase : base ≤ w.heap.size)
    (h : ∀ v' w', w'.ownsRow base t 2 v' (n + 1) (flat2 (xs ++ [m])) → w.grownBy w' v.ownBlock → K (a.put o.dst v') w') :
    if Region.wanted o (yielded ops a.tmps) = true then Oper.wp Try.prog o a w K Q else E := by
  rw [if_pos (by simp [Region.wanted, hgd])]
  exact wp_two ht hinfo s x ho base v n xs hs hown ad m hx hp hn hbase h
set_option maxRecDepth 100000 in
set_option maxHeartbeats 2000000 in
theorem ring2_any (l : List Nd) (A : Option Addr) (c n0 B0 : Nat) (w : World) (hn0 : n0 ≤ B0) (rs : List (Nat × Nat × Nat)) (i fr tt : Nat) (hlen : rs.length < 1000000) (W : World) (hsz : B0 + 2 + 5 ≤ W.heap.size) (hJ : LR l A c B0 w rs W) :
    Calls Try.prog 96 #[.int .i64 (i : Int), .int .i64 (fr : Int), .int .i64 (tt : Int), .pointer (some ⟨B0 + 1, 0, none⟩)] W fun e w' => e = .returned (.tuple #[]) ∧ LR l A c B0 w (rs ++ [(i, fr, tt)]) w' ∧ KV n0 (B0 + 2) W w' ∧ w'.heap[B0 + 2 + 3]? = W.heap[B0 + 2 + 3]? := by
  obtain ⟨v, ho, hown⟩ := hJ.o_
  have p1 := cell_of_one ho
  have z1 := free_of_one ho
  obtain ⟨A5, c5, rfl⟩ := own_slice hown
  have HNX := hid fun (v4 : Value) (w4 : World) (ho4 : w4.ownsRow (B0 + 7) 95 2 v4 (rs.length + 1) (flat2 (rs.map spOf ++ [((fr : Int), (tt : Int))]))) (hg4 : (W.alloc (.cells #[.int .i64 (fr : Int), .int .i64 (tt : Int)] 95)).grownBy w4 (Value.slice A5 rs.length c5).ownBlock) =>
    ring_next hn0 hsz hJ ho hown (show ((fr : Int), (tt : Int)) = spOf (i, fr, tt) from rfl) (Below.refl W.heap.size W) ho4 hg4
  have HOW := hid (own_keep hown ((Below.refl W.heap.size W).alloc (Nat.le_refl _) (.cells #[.int .i64 (fr : Int), .int .i64 (tt : Int)] 95)))
  obtain ⟨nr, hnr⟩ : ∃ nr, nr = rs.length := ⟨_, rfl⟩
  rw [← hnr] at HNX HOW hlen p1
  clear hJ ho hown hnr
  go_enter Try.func96, Try.ntmps96
  go_wp2_with (first | (at_builtin; refine app_two Try.underlying47 Try.infoSpan rfl (.tmp 7) (.tmp 11) rfl (B0 + 7) _ nr (rs.map spOf) rfl HOW.out ⟨W.heap.size, 0, none⟩ ((fr : Int), (tt : Int)) rfl (cell_news W (cells2 ((fr : Int), (tt : Int))) 95) (by omega) (by simp; omega) ?_; intro v4 w4 ho4 hg4; have hx4 := HNX.out v4 w4 ho4 hg4; have p9 := hx4.1.1; have z9 := hx4.1.2; have H4 := hid hx4.2; obtain ⟨A6, c6, rfl⟩ := own_slice ho4; clear ho4 hg4 hx4))
  go_end0
  exact ⟨rfl, H4.out.1, H4.out.2.1, H4.out.2.2⟩
set_option maxRecDepth 100000 in
theorem noLeaf_any (a : Value) (w : World) : Calls Try.prog 95 #[a] w fun e w' => e = .returned (.tuple #[]) ∧ w = w' := by
  go_enter Try.func95, Try.ntmps95
  go_wp2_with fail
  go_end0
  exact ⟨rfl, rfl⟩
theorem rings_told (l : List Nd) (A : Option Addr) (c n0 B0 : Nat) (w : World) (hn0 : n0 ≤ B0) :
    Told l A c n0 (B0 + 2) 95 #[] 96 #[.pointer (some ⟨B0 + 1, 0, none⟩)] (fun _ rs W => LR l A c B0 w rs W) where
  below := fun _ _ _ _ h hb => h.below hb
  read := fun _ _ _ v h _ => h.read v
  leaf := fun ls rs i W hJ hV hi _ hlen => (noLeaf_any _ W).mono fun e w' ⟨h1, h2⟩ => by subst h2; exact ⟨h1, hJ, KV.refl _ _ _, rfl⟩
  ring := fun ls rs i fr W hJ hV _ _ _ _ hr => ring2_any l A c n0 B0 w hn0 rs i fr ls.length hr W hV.size hJ
  lent := enters_of Try.func95 (by kernel_rfl) rfl
  rent := enters_of Try.func96 (by kernel_rfl) rfl
def spans (l : List Nd) : List (Int × Int) := (ringsOf l).map spOf
set_option maxRecDepth 100000 in
set_option maxHeartbeats 1000000 in
theorem rings_any (l : List Nd) (hl : l.length ≤ 1000000) (hH : HonOk l) (A : Option Addr) (c n0 : Nat) (w : World) (hn0 : n0 ≤ w.heap.size) (r : Nds w n0 A l) :
    Calls Try.prog 71 #[.agg #[.slice A l.length c]] w fun e w' => ∃ v, e = .returned v ∧ w'.ownsRow w.heap.size 95 2 v (spans l).length (flat2 (spans l)) ∧ Below w.heap.size w w' := by
  obtain ⟨W, hW⟩ : ∃ W, W = (w.alloc (.cells #[.slice A l.length c] 27)).alloc (.cells #[.slice none 0 0] 47) := ⟨_, rfl⟩
  have hb : Below w.heap.size w W := by rw [hW]; exact ((Below.refl _ _).alloc (Nat.le_refl _) _).alloc (by simp) _
  have hz : W.heap.size = w.heap.size + 2 := by rw [hW]; simp
  have T := rings_told l A c n0 w.heap.size w hn0
  rw [← hz] at T
  have h1 : W.heap[w.heap.size]? = some (.cells #[.slice A l.length c] 27 (0, 0)) := by
    rw [hW, Below.heap_alloc _ _ _ (by simp)]
    exact heap_alloc_new _ _
  have h2 : W.heap[w.heap.size + 1]? = some (.cells #[.slice none 0 0] 47 (0, 0)) := by
    rw [hW]
    have := heap_alloc_new (w.alloc (.cells #[.slice A l.length c] 27)) (.cells #[.slice none 0 0] 47)
    simpa using this
  have hJ : LR l A c w.heap.size w [] W := ⟨h1, ⟨_, h2, World.ownsRow_nil _ _ _ _⟩, hb⟩
  have ho := order_any l hl hH A c n0 _ _ _ _ W (by omega) (r.below (hb.mono hn0)) _ T hJ
  have p1 := cell_of_one h1
  have HO := hid ho; have HW := hid hW; have HB := hid hb
  clear ho T hJ h1 h2 hb hz r hH
  obtain ⟨N, hN⟩ : ∃ N, N = l.length := ⟨_, rfl⟩
  rw [← hN] at hl HO HW p1 ⊢
  clear hN
  go_enter Try.func71, Try.ntmps71
  go_wp2_with fail
  have hc := HO.out
  rw [HW.out] at hc
  refine hc.mono ?_
  rintro e w6 ⟨rfl, j6, _⟩
  obtain ⟨v, o1, o2⟩ := j6.o_
  have p2 := cell_of_one o1
  have HV := hid (own_base o2 (show w.heap.size ≤ w.heap.size + 7 by omega))
  have HB6 := hid j6.bel
  clear hc HO j6 o1 o2
  go_wp2_with fail
  go_ret
  refine ⟨_, rfl, ?_, HB6.out⟩
  unfold spans
  rw [List.length_map]
  exact HV.out
/-- A function that answers pairs and an error. -/
def RngPost (T : TypeId) (E : Int) (L : List (Int × Int)) (w : World) (e : Ending) (w' : World) : Prop := ∃ v, e = .returned (.tuple #[v, .int .i64 E]) ∧ w'.ownsRow w.heap.size T 2 v L.length (flat2 L) ∧ Below w.heap.size w w'
noncomputable def rngL (P : Int) (ss : List Sg) (l : List Nd) : List (Int × Int) := if chkE P ss l = 0 then spans l else []
theorem rngL_bad {P : Int} {ss : List Sg} {l : List Nd} (h : chkE P ss l ≠ 0) : rngL P ss l = [] := if_neg h
theorem rngL_ok {P : Int} {ss : List Sg} {l : List Nd} (h : chkE P ss l = 0) : rngL P ss l = spans l := if_pos h
set_option maxRecDepth 100000 in
set_option maxHeartbeats 4000000 in
theorem ringE_any (P : Int) (ss : List Sg) (l : List Nd) (hN : ss.length ≤ 1000000) (hv : ∀ s ∈ ss, s.vals.length ≤ 1000000 ∧ s.vals.length ≤ s.vc) (hn : l.length ≤ 1000000) (A A2 : Option Addr) (c c2 : Nat) (w : World) (rs : Sgs w w.heap.size A ss) (rn : Nds w w.heap.size A2 l) :
    Calls Try.prog 32 #[.agg #[.int .i64 P, .slice A ss.length c], .agg #[.slice A2 l.length c2]] w (RngPost 95 (chkE P ss l) (rngL P ss l) w) := by
  obtain ⟨w1, hw1⟩ : ∃ w1, w1 = (w.alloc (.cells #[.int .i64 P, .slice A ss.length c] 24)).alloc (.cells #[.slice A2 l.length c2] 27) := ⟨_, rfl⟩
  have hb1 : Below w.heap.size w w1 := by rw [hw1]; exact ((Below.refl _ _).alloc (Nat.le_refl _) _).alloc (by simp) _
  have hz1 : w1.heap.size = w.heap.size + 2 := by rw [hw1]; simp
  have c0 : w1.cell? ⟨w.heap.size, 0, none⟩ = some (.int .i64 P) := by rw [hw1]; exact cell_old (cell_here rfl rfl)
  have c1 : w1.cell? ⟨w.heap.size, 1, none⟩ = some (.slice A ss.length c) := by rw [hw1]; exact cell_old (cell_here rfl rfl)
  have c3 : w1.cell? ⟨w.heap.size + 1, 0, none⟩ = some (.slice A2 l.length c2) := by rw [hw1]; exact cell_here (by simp) rfl
  have HCK := hid (check_any P ss l hN hv hn A A2 c c2 w1 ((rs.below hb1).more (by omega)) ((rn.below hb1).more (by omega)))
  have HLI := hid fun (h : chkE P ss l = 0) (W : World) (hb : Below w.heap.size w W) => rings_any l hn (good_hon h) A2 c2 W.heap.size W (Nat.le_refl _) ((rn.below hb).more hb.size)
  have m1 := rngL_bad (P := P) (ss := ss) (l := l); have m2 := rngL_ok (P := P) (ss := ss) (l := l)
  generalize rngL P ss l = L at m1 m2 ⊢
  generalize chkE P ss l = CE at HCK HLI m1 m2
  have M1 := hid m1; have M2 := hid m2
  clear m1 m2
  generalize ss.length = N at HCK c1 hw1 ⊢
  generalize l.length = n at HCK HLI c3 hw1 ⊢
  have HW1 := hid hw1; have HB1 := hid hb1
  have hzz : w.heap.size + 1 < w1.heap.size := by omega
  have HC3 := hid fun (wr : World) (h : Below w1.heap.size w1 wr) => (h.cell (p := ⟨w.heap.size + 1, 0, none⟩) hzz).trans c3
  have HW : Hid (∀ wr, Below w1.heap.size w1 wr → Below w.heap.size w wr) := fun wr h => hb1.trans (h.mono (by omega))
  clear hw1 hb1 hz1 rs rn hv hN
  go_enter Try.func32, Try.ntmps32
  go_upto_region 1 with (fail)
  rw [← HW1.out]
  clear HW1
  obtain ⟨B0, hB0⟩ : ∃ B0, B0 = w.heap.size := ⟨_, rfl⟩
  obtain ⟨B1, hB1⟩ : ∃ B1, B1 = B0 + 1 := ⟨_, rfl⟩
  rw [← hB0, ← hB1] at c3 HC3 hzz
  rw [← hB0] at c0 c1 ⊢
  rw [← hB1]
  clear hB0 hB1
  by_cases hCE : CE = 0
  · have f0 : (CE != 0) = false := by simp [hCE]
    have x2 := M2.out hCE
    replace HLI := hid (HLI.out hCE)
    have X2 := hid x2
    clear M1 M2 x2
    subst hCE
    go_wp2_with (first | (go_at_call 19; refine HCK.out.mono ?_; rintro e w2 ⟨rfl, hb2⟩; have p2 := HC3.out w2 hb2; have HC2 := hid (HLI.out w2 (HW.out _ hb2)); have HB2 := hid hb2; clear hb2 HCK c0 c1 c3) | (go_at_call 71; refine HC2.out.mono ?_; rintro e w5 ⟨v5, rfl, ho5, hb5⟩; have HO5 := hid (own_base ho5 (HW.out _ HB2.out).size); have HB5 := hid (HW.out _ (HB2.out.trans (hb5.mono HB2.out.size))); clear ho5 hb5))
    go_ret2
    exact ⟨_, rfl, by rw [X2.out]; exact HO5.out, HB5.out⟩
  · have f0 : (CE != 0) = true := by simp [hCE]
    have x2 := M1.out hCE
    have X2 := hid x2
    clear x2
    clear M1 M2 hCE
    go_wp2_with (first | (go_at_call 19; refine HCK.out.mono ?_; rintro e w2 ⟨rfl, hb2⟩; have HB2 := hid hb2; clear hb2 HCK c0 c1 c3))
    go_ret2
    exact ⟨.slice none 0 0, rfl, by rw [X2.out]; exact World.ownsRow_nil _ _ _ _, HW.out _ HB2.out⟩
end Go.Proofs.Ytddbnggficlcfaa

/- Plain law: a ring stands only at the head of a group. -/
namespace Go.Proofs.Ytddbnggficlcfaa
open Go.RowKit Go.Shelf
theorem rgsL_nil {rg : Nat → Nat → List (Nat × Nat × Nat)} {lv : Nat → Nat} : ∀ (ks : List Nat) (r : Nat), (∀ k ∈ ks, ∀ r, rg k r = []) → rgsL rg lv ks r = []
  | [], _, _ => rfl
  | k :: ks, r, h => by
    rw [rgsL, h k (by simp) r, rgsL_nil ks _ fun x hx => h x (by simp [hx])]
    rfl
theorem rgs_none {l : List Nd} (hw : WfN l) (hR : ∀ i, i < l.length → kd l i = 5 → dep l i ≤ 0) : ∀ (f i : Nat) (r : Nat), i < l.length → 0 < dep l i → rgs l f (i : Int) r = []
  | 0, _, _, _, _ => rfl
  | f + 1, i, r, hi, hd => by
    unfold rgs
    split
    · rfl
    · rw [rgsL_nil (ordK l (i : Int)) r fun k hk r => by
        obtain ⟨_, h2, h3, _⟩ := (kid_iff hw hi).1 (ordK_mem hk)
        exact rgs_none hw hR f k r h2 (by omega)]
      rw [if_neg fun h => by have := hR i hi h.2; omega]
      rfl
theorem rgs_top {l : List Nd} (hw : WfN l) (hd : DepOk l) (hR : ∀ i, i < l.length → kd l i = 5 → dep l i ≤ 0) (f i : Nat) (r : Nat) (hf : 0 < f) (hi : i < l.length) : rgs l f (i : Int) r = if kd l i = 5 then [(i, r, r + (lvs l f (i : Int)).length)] else [] := by
  obtain ⟨g, rfl⟩ : ∃ g, f = g + 1 := ⟨f - 1, by omega⟩
  unfold rgs
  split
  · rename_i h
    rw [if_neg]
    intro h5
    have := h.2
    rw [show (i : Int).toNat = i from rfl, h5] at this
    cases this
  · rw [rgsL_nil (ordK l (i : Int)) r fun k hk r => by
      obtain ⟨_, h2, h3, _⟩ := (kid_iff hw hi).1 (ordK_mem hk)
      have := (hd i hi).1
      exact rgs_none hw hR g k r h2 (by omega)]
    rw [List.nil_append, show (i : Int).toNat = i from rfl]
    by_cases h5 : kd l i = 5
    · rw [if_pos ⟨by omega, h5⟩, if_pos h5]
    · rw [if_neg (fun h => h5 h.2), if_neg h5]
theorem spans_rn (l : List Nd) : spans l = (rn l l.length (kidsOf l (-1)) 0 (kidsOf l (-1)).length).map spOf := by
  unfold spans ringsOf
  rw [rgs_no (fun h => by have := h.1; omega)]
  rw [if_neg (fun h => by have := h.1; omega), List.append_nil]
  have : ordK l (-1) = kidsOf l (-1) := if_neg (fun h => by have := h.1; omega)
  rw [this]
end Go.Proofs.Ytddbnggficlcfaa

/- ostraconref02.Rings. -/
namespace Go.Proofs.Ytddbnggficlcfaa
open Go.RowKit Go.Shelf
set_option maxRecDepth 100000 in
set_option maxHeartbeats 8000000 in
theorem refRings_any (P : Int) (ss : List Sg) (l : List Nd) (hN : ss.length ≤ 1000000) (hv : ∀ s ∈ ss, s.vals.length ≤ 1000000) (hn : l.length ≤ 1000000) (A A2 : Option Addr) (c c2 : Nat) (w : World) (rs : Sgs w w.heap.size A ss) (rn0 : Nds w w.heap.size A2 l) :
    Calls Try.prog 33 #[.agg #[.int .i64 P, .slice A ss.length c], .agg #[.slice A2 l.length c2]] w (RngPost 72 (chkE P ss l) (rngL P ss l) w) := by
  obtain ⟨w1, hw1⟩ : ∃ w1, w1 = (w.alloc (.cells #[.int .i64 P, .slice A ss.length c] 24)).alloc (.cells #[.slice A2 l.length c2] 27) := ⟨_, rfl⟩
  have hb1 : Below w.heap.size w w1 := by rw [hw1]; exact ((Below.refl _ _).alloc (Nat.le_refl _) _).alloc (by simp) _
  have hz1 : w1.heap.size = w.heap.size + 2 := by rw [hw1]; simp
  have c0 : w1.cell? ⟨w.heap.size, 0, none⟩ = some (.int .i64 P) := by rw [hw1]; exact cell_old (cell_here rfl rfl)
  have c1 : w1.cell? ⟨w.heap.size, 1, none⟩ = some (.slice A ss.length c) := by rw [hw1]; exact cell_old (cell_here rfl rfl)
  have c3 : w1.cell? ⟨w.heap.size + 1, 0, none⟩ = some (.slice A2 l.length c2) := by rw [hw1]; exact cell_here (by simp) rfl
  have HCK := hid (refCheck_any P ss l hN hv hn A A2 c c2 w1 ((rs.below hb1).more (by omega)) ((rn0.below hb1).more (by omega)))
  have HKI := hid fun (h : chkE P ss l = 0) (W : World) (hb : Below w.heap.size w W) => by
    have := refKids_any l (-1) (by omega) (by omega) (good_of (chkE_zero h).2.2.1).deps hn A2 c2 W ((rn0.below hb).more hb.size)
    rw [rkids_eq (good_of (chkE_zero h).2.2.1).wf (by omega) (by omega)] at this
    exact this
  have HLV := hid fun (h : chkE P ss l = 0) (x : Nat) (hx : x < l.length) (W : World) (hb : Below w.heap.size w W) => refLeaves_any l (good_of (chkE_zero h).2.2.1).wf (good_of (chkE_zero h).2.2.1).deps hn (good_hon h) A2 c2 l.length (x : Int) W (by omega) (by omega) (by omega) ((rn0.below hb).more hb.size)
  have HTP := hid fun (h : chkE P ss l = 0) (x r : Nat) (hx : x < l.length) => rgs_top (good_of (chkE_zero h).2.2.1).wf (good_of (chkE_zero h).2.2.1).deps (fun i hi => ((chkE_zero h).2.2.2 i hi).2.1) l.length x r (by omega) hx
  have m1 := rngL_bad (P := P) (ss := ss) (l := l); have m2 := rngL_ok (P := P) (ss := ss) (l := l)
  rw [spans_rn] at m2
  have hkm := fun x (h : x ∈ kidsOf l (-1)) => (kidsOf_mem (l := l) (by omega) (by omega) h).2
  have hkl := kidsOf_len (l := l) (node := -1) (by omega)
  have hdn : (dn l l.length (kidsOf l (-1)) (kidsOf l (-1)).length).length ≤ l.length := by
    have h1 := lvs_no (l := l) (f := l.length) (node := -1) (fun h => by have := h.1; omega)
    have h2 : ordK l (-1) = kidsOf l (-1) := if_neg (fun h => by have := h.1; omega)
    rw [h2] at h1
    rw [← h1]
    exact leaves_len l
  generalize kidsOf l (-1) = ks at HKI m2 hkm hkl hdn
  generalize rngL P ss l = L at m1 m2 ⊢
  generalize chkE P ss l = CE at HCK HLV HKI HTP m1 m2
  have M1 := hid m1; have M2 := hid m2; have HKM := hid hkm
  clear m1 m2 hkm
  generalize ss.length = N at HCK c1 hw1 ⊢
  obtain ⟨n, hnn⟩ : ∃ n, n = l.length := ⟨_, rfl⟩
  rw [← hnn] at HCK HLV HKI HTP HKM M2 c3 hw1 hkl hdn hn ⊢
  have HW1 := hid hw1; have HB1 := hid hb1; have HR := hid rn0; have HNN := hid hnn; have HDN := hid hdn
  have hzz : w.heap.size + 1 < w1.heap.size := by omega
  have HC3 := hid fun (wr : World) (h : Below w1.heap.size w1 wr) => (h.cell (p := ⟨w.heap.size + 1, 0, none⟩) hzz).trans c3
  have HW : Hid (∀ wr, Below w1.heap.size w1 wr → Below w.heap.size w wr) := fun wr h => hb1.trans (h.mono (by omega))
  clear hw1 hb1 hz1 rs rn0 hv hN hnn hdn
  go_enter Try.func33, Try.ntmps33
  go_upto_region 1 with (fail)
  rw [← HW1.out]
  clear HW1
  obtain ⟨B0, hB0⟩ : ∃ B0, B0 = w.heap.size := ⟨_, rfl⟩
  obtain ⟨B1, hB1⟩ : ∃ B1, B1 = B0 + 1 := ⟨_, rfl⟩
  rw [← hB0, ← hB1] at c3 HC3 hzz
  rw [← hB0] at c0 c1 ⊢
  rw [← hB1]
  clear hB0 hB1
  by_cases hCE : CE = 0
  · have f0 : (CE != 0) = false := by simp [hCE]
    have x2 := M2.out hCE
    replace HLV := hid (HLV.out hCE); replace HKI := hid (HKI.out hCE); replace HTP := hid (HTP.out hCE)
    have X2 := hid x2
    clear M1 M2 x2
    subst hCE
    go_wp2_with (first | (go_at_call 20; refine HCK.out.mono ?_; rintro e w2 ⟨rfl, hb2⟩; have p2 := HC3.out w2 hb2; have HC2 := hid (HKI.out w2 (HW.out _ hb2)); have HB2 := hid hb2; clear hb2 HCK c0 c1 c3) | (go_at_call 67; refine HC2.out.mono ?_; rintro e w5 ⟨v5, rfl, ho5, hb5⟩; obtain ⟨A5, c5, rfl⟩ := own_slice ho5; have HL5 := hid (show Rd w5 w5.heap.size A5 (nz ks) from by unfold Rd; rw [nz_len]; exact Reads.of_own ho5); have HB5 := hid (HB2.out.trans (hb5.mono HB2.out.size)); clear ho5 hb5))
    obtain ⟨m, hm⟩ : ∃ m, m = ks.length := ⟨_, rfl⟩
    have hnl : (nz ks).length = m := by rw [nz_len, hm]
    rw [← hm] at hkl ⊢
    have HM := hid hm; have HNL := hid hnl
    clear hm hnl HC2 p2
    go_loopw [7, 9, 10] (fun vv av kv wr => ∃ (k : Nat) (RR : List (Int × Int)) (a : Nat), k ≤ m ∧ kv = .int .i64 k ∧ av = .int .i64 (a : Int) ∧ Hid (RR = (rn l n ks 0 k).map spOf) ∧ Hid (a = (dn l n ks k).length) ∧ Hid (RR.length ≤ k) ∧ Hid (wr.ownsRow w5.heap.size 72 2 vv RR.length (flat2 RR)) ∧ Hid (Below w5.heap.size w5 wr)) (fun _ _ kv _ => m - (intOf kv).toNat)
    case atStart => exact ⟨0, [], 0, by omega, rfl, rfl, hid rfl, hid rfl, Nat.zero_le _, World.ownsRow_nil _ _ _ _, Below.refl _ _⟩
    case round =>
      obtain ⟨k, RR, a, hk, rfl, rfl, hRR, ha, hrl, hO, hB⟩ := hrel
      by_cases hkm : k < m
      · have hb2 := HB5.out.trans (hB.out.mono HB5.out.size)
        have p3 := HC3.out wr hb2
        have hkl' : k < ks.length := by rw [← HM.out]; exact hkm
        obtain ⟨b5, o5, rfl, hb5, hc5⟩ := HL5.out.at (by rw [HNL.out]; omega)
        have p4 := hc5 k (by rw [HNL.out]; exact hkm)
        rw [nth_nz hkl', List.getD_eq_getElem?_getD, List.getElem?_eq_getElem hkl', Option.getD_some] at p4
        have hx := HKM.out ks[k] (List.getElem_mem hkl')
        have hds := dn_s (l := l) (f := n) hkl'
        have hrs := rn_s (l := l) (f := n) (r := 0) hkl'
        have hdl := dn_le (l := l) (f := n) hkl'
        have hdn := HDN.out
        rw [Nat.zero_add, HTP.out ks[k] _ hx, ← ha.out] at hrs
        have hdx := congrArg List.length hds
        rw [List.length_append, ← ha.out] at hdx
        rw [← ha.out] at hdl
        have hlv := HLV.out ks[k] hx wr.drew (HW.out _ hb2).drew
        obtain ⟨b, o, rfl, hbB, hc⟩ := HR.out.at (by rw [← HNN.out]; omega)
        have hkc := fun (W : World) (h : Below w1.heap.size w1 W) => ((HW.out _ h).cell (p := ⟨b, o + ks[k] * 8, none⟩) hbB).trans (hc ks[k] (by rw [← HNN.out]; exact hx)).kind
        rw [← kd_at] at hkc
        generalize ks[k] = x at p4 hx hrs hdl hdx hlv hkc
        generalize lvs l n (x : Int) = E0 at hrs hdl hdx hlv
        obtain ⟨e, he⟩ : ∃ e, e = E0.length := ⟨_, rfl⟩
        rw [← he] at hrs hdl hdx
        have hae : a + e ≤ 1000000 := by omega
        generalize kd l x = kx at hrs hkc
        have HP5 := hid fun (W : World) (h : Below w5.heap.size w5 W) => (h.cell (p := ⟨b5, o5 + k, none⟩) hb5).trans p4
        have q5 := HP5.out wr hB.out
        obtain ⟨A6, c6, rfl⟩ := own_slice hO.out
        have hrr2 : kx = 5 → RR ++ [((a : Int), (a : Int) + (e : Int))] = (rn l n ks 0 (k + 1)).map spOf := fun h => by
          rw [hrs, List.map_append, ← hRR.out, if_pos h]
          simp [spOf]
        have hrr3 : ¬ kx = 5 → RR = (rn l n ks 0 (k + 1)).map spOf := fun h => by
          rw [hrs, List.map_append, ← hRR.out, if_neg h]
          simp
        have HKC := hid hkc; have HLV2 := hid hlv; have HDX := hid hdx.symm; have HE := hid he; have HB := hid hB.out; have HO2 := hid hO.out; have HB52 := hid hb2
        have HR2 := hid hrr2; have HR3 := hid hrr3
        have hrl' : RR.length ≤ k := hrl.out
        have g0 : (k : Int) < (m : Int) := by omega
        have hxn : (x : Int) < (n : Int) := by omega
        obtain ⟨nr, hnr⟩ : ∃ nr, nr = RR.length := ⟨_, rfl⟩
        rw [← hnr] at HO2 hrl' ⊢
        have HNR := hid hnr
        clear hkc hlv hdx he hB hO hb2 hrs hrl hds hdn hdl hc5 hb5 hkl' hc p4 hRR ha hrr2 hrr3 hnr
        go_wp2_with fail
        go_cut [11] (fun s11 wx => s11 = .int .i64 (e : Int) ∧ Hid (Below wr.heap.size wr wx))
        case first =>
          go_region_law (first
            | (go_simp; go_at_call 69; refine (HLV2.out).mono ?_; rintro e' w7 ⟨v7, rfl, ho7, hb7⟩; rw [← HE.out] at ho7; obtain ⟨A7, c7, rfl⟩ := own_slice ho7; have HB7 := hid ((Below.refl _ _).drew.trans hb7); clear ho7 hb7))
          all_goals
            go_wp2_with fail
            go_meet
            exact ⟨rfl, HB7⟩
        obtain ⟨rfl, HB7⟩ := hcut
        have hbc := HB.out.trans (HB7.out.mono HB.out.size)
        have q3 := HC3.out wc (HB5.out.trans (hbc.mono HB5.out.size))
        have q6 := HP5.out wc hbc
        have q8 := HKC.out wc (HB5.out.trans (hbc.mono HB5.out.size))
        clear p3 q5
        by_cases h5 : kx = 5
        · have f5 : (kx == 5) = true := by simp [h5]
          have HR4 := hid (HR2.out h5)
          have HBC := hid hbc
          have HOA := hid fun (q : Nat) (X : Obj) => own_keep HO2.out ((below_drewN HB7.out q).alloc HB7.out.size X)
          have HBA := hid fun (q : Nat) (X : Obj) => (below_drewN hbc q).alloc hbc.size X
          clear HR2 HR3 h5 hbc HLV2 HKC HP5
          go_wp2_with fail
          go_quiet (fail)
          go_wp2_with (first | (at_builtin; refine app_two Try.underlying50 Try.infoPair rfl (.tmp 43) (.tmp 49) rfl w5.heap.size _ nr RR rfl (HOA.out _ _) ⟨wc.heap.size, 0, none⟩ ((a : Int), (a : Int) + (e : Int)) rfl (cell_news (wc.drewN _) (cells2 ((a : Int), (a : Int) + (e : Int))) 72) (by omega) (HBA.out _ _).size ?_; intro v4 w4 ho4 hg4; have HB4 := hid (below_app (HBA.out _ _) (HOA.out _ _) hg4 (Nat.le_refl _) (HBA.out _ _).size); obtain ⟨A8, c8, rfl⟩ := own_slice ho4; have HO4 := hid ho4; clear ho4 hg4))
          go_roundw
          case rel => exact ⟨k + 1, RR ++ [((a : Int), (a : Int) + (e : Int))], a + e, by omega, by go_num, by go_num, HR4, HDX, by rw [List.length_append, ← HNR.out]; exact hid (show nr + 1 ≤ k + 1 by omega), by rw [List.length_append, ← HNR.out]; exact HO4, HB4⟩
          case measure => simp [intOf]; omega
        · have f5 : (kx == 5) = false := by simp [h5]
          have HR4 := hid (HR3.out h5)
          have HBC := hid fun (q : Nat) => below_drewN hbc q
          have HO4 := hid fun (q : Nat) => own_keep HO2.out (below_drewN HB7.out q)
          clear HR2 HR3 h5 hbc HLV2 HKC HP5
          go_wp2_with fail
          go_quiet (fail)
          go_wp2_with fail
          go_roundw
          case rel => exact ⟨k + 1, RR, a + e, by omega, by go_num, by go_num, HR4, HDX, by rw [← HNR.out]; exact hid (show nr ≤ k + 1 by omega), by rw [← HNR.out]; exact HO4.out _, HBC.out _⟩
          case measure => simp [intOf]; omega
      · obtain rfl : m = k := by omega
        have g0 : decide (m < m) = false := by simp
        have hO2 := own_base hO.out (HW.out _ HB5.out).size
        have HF := hid hRR.out
        have HO2 := hid hO2
        clear hO hO2 hRR ha hrl
        go_wp2_with fail
        go_ret2
        exact ⟨_, rfl, by rw [X2.out, ← HM.out, ← HF.out]; exact HO2.out, HW.out _ (HB5.out.trans (hB.out.mono HB5.out.size))⟩
  · have f0 : (CE != 0) = true := by simp [hCE]
    have x2 := M1.out hCE
    have X2 := hid x2
    clear x2
    clear M1 M2 hCE
    go_wp2_with (first | (go_at_call 20; refine HCK.out.mono ?_; rintro e w2 ⟨rfl, hb2⟩; have HB2 := hid hb2; clear hb2 HCK c0 c1 c3))
    go_ret2
    exact ⟨.slice none 0 0, rfl, by rw [X2.out]; exact World.ownsRow_nil _ _ _ _, HW.out _ HB2.out⟩
end Go.Proofs.Ytddbnggficlcfaa

/- ostraconref02.SameMarks, ostraconref02.SameRings. -/
namespace Go.Proofs.Ytddbnggficlcfaa
open Go.RowKit
theorem run_neq_mark (x y : Mk) (W : World) : (binOp .neq 70 (.agg #[.int .i64 x.sign, .int .i64 x.state, .int .i64 x.mn, .int .i64 x.mx]) (.agg #[.int .i64 y.sign, .int .i64 y.state, .int .i64 y.mn, .int .i64 y.mx])).run Try.prog W = .ok (.bool (decide (x ≠ y))) W := by
  obtain ⟨x1, x2, x3, x4⟩ := x
  obtain ⟨y1, y2, y3, y4⟩ := y
  simp [go_sem]
  (repeat' split) <;> simp [*]
theorem run_neq_pair (x y : Int × Int) (W : World) : (binOp .neq 72 (.agg #[.int .i64 x.1, .int .i64 x.2]) (.agg #[.int .i64 y.1, .int .i64 y.2])).run Try.prog W = .ok (.bool (decide (x ≠ y))) W := by
  obtain ⟨x1, x2⟩ := x
  obtain ⟨y1, y2⟩ := y
  obtain ⟨i0, hi, _⟩ := info_parts Try.infoInt
  rw [run_neq_struct, show (10000 : Nat) = 9999 + 1 from rfl, run_equalIn_array W 9999 _ _ Try.underlying72 hi]
  rw [show Try.prog.cellsOf 3 = 1 from by kernel_rfl]
  simp [go_sem, Op.eqItems, List.range, List.range.loop]
  (repeat' split) <;> simp [*]
theorem flat2_get : ∀ (l : List (Int × Int)) (k j : Nat) (hk : k < l.length), j < 2 → (flat2 l)[k * 2 + j]? = (cells2 l[k])[j]?
  | a :: l, 0, j, _, hj => by
    unfold flat2
    rw [List.flatMap_cons, Nat.zero_mul, Nat.zero_add, List.getElem?_append_left (by simpa [cells2] using hj)]
    rfl
  | a :: l, k + 1, j, hk, hj => by
    have ih := flat2_get l k j (by simpa using hk) hj
    unfold flat2 at ih ⊢
    rw [List.flatMap_cons, List.getElem?_append_right (by simp only [cells2, List.length_cons, List.length_nil]; omega)]
    have e : (k + 1) * 2 + j - (cells2 a).length = k * 2 + j := by simp only [cells2, List.length_cons, List.length_nil]; omega
    rw [e, ih]
    rfl
def Prs (w : World) (B : Nat) (A : Option Addr) (l : List (Int × Int)) : Prop := Reads w B 2 A l.length (flat2 l)
structure PrAt (w : World) (b o : Nat) (m : Int × Int) : Prop where
  p1 : w.cell? ⟨b, o, none⟩ = some (.int .i64 m.1)
  p2 : w.cell? ⟨b, o + 1, none⟩ = some (.int .i64 m.2)
theorem Prs.at {w : World} {B : Nat} {A : Option Addr} {l : List (Int × Int)} (h : Prs w B A l) (hl : 0 < l.length) :
    ∃ b o, A = some ⟨b, o, none⟩ ∧ b < B ∧ ∀ k (hk : k < l.length), PrAt w b (o + k * 2) l[k] := by
  obtain ⟨b, o, rfl, hb, hc⟩ := Reads.at0 h hl (by rw [flat2_len]; omega)
  refine ⟨b, o, rfl, hb, fun k hk => ?_⟩
  have hx : ∀ j u, j < 2 → (cells2 l[k])[j]? = some u → w.cell? ⟨b, o + k * 2 + j, none⟩ = some u := fun j u hj hu => by
    rw [Nat.add_assoc]
    exact hc _ u (by rw [flat2_get l k j hk hj]; exact hu)
  exact ⟨hx 0 _ (by omega) rfl, hx 1 _ (by omega) rfl⟩
theorem PrAt.below {w w' : World} {B b o : Nat} {m : Int × Int} (h : PrAt w b o m) (hb : Below B w w') (hB : b < B) : PrAt w' b o m :=
  have c : ∀ j, w'.cell? ⟨b, j, none⟩ = w.cell? ⟨b, j, none⟩ := fun j => hb.cell (p := ⟨b, j, none⟩) hB
  ⟨(c _).trans h.p1, (c _).trans h.p2⟩
set_option maxRecDepth 100000 in
set_option maxHeartbeats 2000000 in
theorem sameMarks_any (a b : List Mk) (Aa Ab : Option Addr) (ca cb : Nat) (ha : a.length ≤ 1000000) (hb : b.length ≤ 1000000) (w : World) (ra : Mks w w.heap.size Aa a) (rb : Mks w w.heap.size Ab b) :
    Calls Try.prog 34 #[.slice Aa a.length ca, .slice Ab b.length cb] w (BoolIs (a = b) w) := by
  have RA := hid ra; have RB := hid rb
  have HNI := hid (fun (i : Nat) (ha : i < a.length) (hb : i < b.length) (h1 : a[i] ≠ b[i]) (h2 : a = b) => h1 (by subst h2; rfl))
  obtain ⟨n, hn⟩ : ∃ n, n = a.length := ⟨_, rfl⟩
  obtain ⟨m, hm⟩ : ∃ m, m = b.length := ⟨_, rfl⟩
  rw [← hn] at ha ⊢
  rw [← hm] at hb ⊢
  have HEQ := hid (fun (h1 : n = m) (h2 : ∀ (i : Nat) (ha : i < a.length) (hb : i < b.length), a[i] = b[i]) => eq_take h2 (by omega))
  have HNE := hid (fun (h1 : n ≠ m) (h2 : a = b) => h1 (by rw [hn, hm, h2]))
  have HN := hid hn; have HM := hid hm
  have HBW : Hid (∀ q, Below w.heap.size w (w.drewN q)) := fun q => below_drewN (Below.refl _ _) q
  clear hn hm ra rb
  go_enter Try.func34, Try.ntmps34
  by_cases hnm : n = m
  · have f0 : ((n : Int) != (m : Int)) = false := by simp [hnm]
    have f1 : (n != m) = false := by simp [hnm]
    have HQ := hid (HEQ.out hnm)
    have hnm2 := hid hnm
    clear HNE HEQ hnm
    go_wp2_with fail
    go_loopw [5] (fun kv wr => ∃ k : Nat, k ≤ n ∧ kv = .int .i64 k ∧ Hid (∀ (i : Nat) (ha : i < a.length) (hb : i < b.length), i < k → a[i] = b[i]) ∧ ∃ q, wr = w.drewN q) (fun kv _ => n - (intOf kv).toNat)
    case atStart => exact ⟨0, by omega, rfl, hid (fun i _ _ h => by omega), 0, rfl⟩
    case round =>
      obtain ⟨k, hk, rfl, hP, q, rfl⟩ := hrel
      by_cases hkn : k < n
      · have hka : k < a.length := by rw [← HN.out]; exact hkn
        have hkb : k < b.length := by rw [← HM.out, ← hnm2.out]; exact hkn
        have hq1 : (k : Int) < (n : Int) := by omega
        have hq2 : (k : Int) < (m : Int) := by rw [← hnm2.out]; exact hq1
        obtain ⟨b1, o1, rfl, _, hc1⟩ := RA.out.at (by omega)
        obtain ⟨b2, o2, rfl, _, hc2⟩ := RB.out.at (by omega)
        have hx := hc1 k hka; have hy := hc2 k hkb
        have hno := HNI.out k hka hkb
        have hyes : a[k]'hka = b[k]'hkb → ∀ (i : Nat) (ha : i < a.length) (hb : i < b.length), i < k + 1 → a[i] = b[i] := fun h i ha hb hi => by
          rcases Nat.eq_or_lt_of_le (Nat.le_of_lt_succ hi) with rfl | h3
          · exact h
          · exact hP.out i ha hb h3
        generalize a[k]'hka = x at hx hno hyes
        generalize b[k]'hkb = y at hy hno hyes
        have d1 := hx.sign; have d2 := hx.state; have d3 := hx.mn; have d4 := hx.mx; have e1 := hy.sign; have e2 := hy.state; have e3 := hy.mn; have e4 := hy.mx
        have HY := hid hyes; have HN2 := hid hno
        clear hx hy hc1 hc2 hno hyes hP
        by_cases hxy : x = y
        · have HX := hid (HY.out hxy)
          clear HY HN2
          subst hxy
          have hne := fun W => run_neq_mark x x W
          rw [decide_eq_false (fun h => h rfl)] at hne
          obtain ⟨x1, x2, x3, x4⟩ := x
          simp only [] at d1 d2 d3 d4 e1 e2 e3 e4 hne
          go_wp2_with fail
          go_quiet (fail)
          go_wp2_with fail
          go_roundw
          case rel => exact ⟨k + 1, by omega, by go_num, HX.out, _, by first | rfl | exact World.drewN_drewN _ _ _⟩
          case measure => simp [intOf]; omega
        · have HX := hid (HN2.out hxy)
          clear HY HN2
          have hne := fun W => run_neq_mark x y W
          rw [decide_eq_true hxy] at hne
          obtain ⟨x1, x2, x3, x4⟩ := x
          obtain ⟨y1, y2, y3, y4⟩ := y
          simp only [] at d1 d2 d3 d4 e1 e2 e3 e4 hne
          clear hxy
          go_wp2_with fail
          go_quiet (fail)
          go_wp2_with fail
          go_ret
          exact ⟨⟨_, rfl, iff_of_false (by simp) HX.out⟩, by first | exact HBW.out _ | (rw [World.drewN_drewN]; exact HBW.out _)⟩
      · obtain rfl : k = n := by omega
        have HX := hid (HQ.out fun i ha hb => hP.out i ha hb (by rw [HN.out]; exact ha))
        clear hP
        go_wp2_with fail
        go_ret
        exact ⟨⟨_, rfl, iff_of_true (by simp) HX.out⟩, HBW.out _⟩
  · have HX := hid (HNE.out hnm)
    have f0 : ((n : Int) != (m : Int)) = true := by rw [bne_iff_ne]; omega
    have f1 : (n != m) = true := by rw [bne_iff_ne]; exact hnm
    clear hnm
    go_wp2_with fail
    all_goals first | (go_ret; exact ⟨⟨_, rfl, iff_of_false (by simp) HX.out⟩, HBW.out 0⟩) | (exfalso; omega)
set_option maxRecDepth 100000 in
set_option maxHeartbeats 2000000 in
theorem sameRings_any (a b : List (Int × Int)) (Aa Ab : Option Addr) (ca cb : Nat) (ha : a.length ≤ 1000000) (hb : b.length ≤ 1000000) (w : World) (ra : Prs w w.heap.size Aa a) (rb : Prs w w.heap.size Ab b) :
    Calls Try.prog 35 #[.slice Aa a.length ca, .slice Ab b.length cb] w (BoolIs (a = b) w) := by
  have RA := hid ra; have RB := hid rb
  have HNI := hid (fun (i : Nat) (ha : i < a.length) (hb : i < b.length) (h1 : a[i] ≠ b[i]) (h2 : a = b) => h1 (by subst h2; rfl))
  obtain ⟨n, hn⟩ : ∃ n, n = a.length := ⟨_, rfl⟩
  obtain ⟨m, hm⟩ : ∃ m, m = b.length := ⟨_, rfl⟩
  rw [← hn] at ha ⊢
  rw [← hm] at hb ⊢
  have HEQ := hid (fun (h1 : n = m) (h2 : ∀ (i : Nat) (ha : i < a.length) (hb : i < b.length), a[i] = b[i]) => eq_take h2 (by omega))
  have HNE := hid (fun (h1 : n ≠ m) (h2 : a = b) => h1 (by rw [hn, hm, h2]))
  have HN := hid hn; have HM := hid hm
  have HBW : Hid (∀ q, Below w.heap.size w (w.drewN q)) := fun q => below_drewN (Below.refl _ _) q
  clear hn hm ra rb
  go_enter Try.func35, Try.ntmps35
  by_cases hnm : n = m
  · have f0 : ((n : Int) != (m : Int)) = false := by simp [hnm]
    have f1 : (n != m) = false := by simp [hnm]
    have HQ := hid (HEQ.out hnm)
    have hnm2 := hid hnm
    clear HNE HEQ hnm
    go_wp2_with fail
    go_loopw [5] (fun kv wr => ∃ k : Nat, k ≤ n ∧ kv = .int .i64 k ∧ Hid (∀ (i : Nat) (ha : i < a.length) (hb : i < b.length), i < k → a[i] = b[i]) ∧ ∃ q, wr = w.drewN q) (fun kv _ => n - (intOf kv).toNat)
    case atStart => exact ⟨0, by omega, rfl, hid (fun i _ _ h => by omega), 0, rfl⟩
    case round =>
      obtain ⟨k, hk, rfl, hP, q, rfl⟩ := hrel
      by_cases hkn : k < n
      · have hka : k < a.length := by rw [← HN.out]; exact hkn
        have hkb : k < b.length := by rw [← HM.out, ← hnm2.out]; exact hkn
        have hq1 : (k : Int) < (n : Int) := by omega
        have hq2 : (k : Int) < (m : Int) := by rw [← hnm2.out]; exact hq1
        obtain ⟨b1, o1, rfl, _, hc1⟩ := RA.out.at (by omega)
        obtain ⟨b2, o2, rfl, _, hc2⟩ := RB.out.at (by omega)
        have hx := hc1 k hka; have hy := hc2 k hkb
        have hno := HNI.out k hka hkb
        have hyes : a[k]'hka = b[k]'hkb → ∀ (i : Nat) (ha : i < a.length) (hb : i < b.length), i < k + 1 → a[i] = b[i] := fun h i ha hb hi => by
          rcases Nat.eq_or_lt_of_le (Nat.le_of_lt_succ hi) with rfl | h3
          · exact h
          · exact hP.out i ha hb h3
        generalize a[k]'hka = x at hx hno hyes
        generalize b[k]'hkb = y at hy hno hyes
        have d1 := hx.p1; have d2 := hx.p2; have e1 := hy.p1; have e2 := hy.p2
        have HY := hid hyes; have HN2 := hid hno
        clear hx hy hc1 hc2 hno hyes hP
        by_cases hxy : x = y
        · have HX := hid (HY.out hxy)
          clear HY HN2
          subst hxy
          have hne := fun W => run_neq_pair x x W
          rw [decide_eq_false (fun h => h rfl)] at hne
          obtain ⟨x1, x2⟩ := x
          simp only [] at d1 d2 e1 e2 hne
          go_wp2_with fail
          go_quiet (fail)
          go_wp2_with fail
          go_roundw
          case rel => exact ⟨k + 1, by omega, by go_num, HX.out, _, by first | rfl | exact World.drewN_drewN _ _ _⟩
          case measure => simp [intOf]; omega
        · have HX := hid (HN2.out hxy)
          clear HY HN2
          have hne := fun W => run_neq_pair x y W
          rw [decide_eq_true hxy] at hne
          obtain ⟨x1, x2⟩ := x
          obtain ⟨y1, y2⟩ := y
          simp only [] at d1 d2 e1 e2 hne
          clear hxy
          go_wp2_with fail
          go_quiet (fail)
          go_wp2_with fail
          go_ret
          exact ⟨⟨_, rfl, iff_of_false (by simp) HX.out⟩, by first | exact HBW.out _ | (rw [World.drewN_drewN]; exact HBW.out _)⟩
      · obtain rfl : k = n := by omega
        have HX := hid (HQ.out fun i ha hb => hP.out i ha hb (by rw [HN.out]; exact ha))
        clear hP
        go_wp2_with fail
        go_ret
        exact ⟨⟨_, rfl, iff_of_true (by simp) HX.out⟩, HBW.out _⟩
  · have HX := hid (HNE.out hnm)
    have f0 : ((n : Int) != (m : Int)) = true := by rw [bne_iff_ne]; omega
    have f1 : (n != m) = true := by rw [bne_iff_ne]; exact hnm
    clear hnm
    go_wp2_with fail
    all_goals first | (go_ret; exact ⟨⟨_, rfl, iff_of_false (by simp) HX.out⟩, HBW.out 0⟩) | (exfalso; omega)
end Go.Proofs.Ytddbnggficlcfaa

/- ostraconlaw02.spans. -/
namespace Go.Proofs.Ytddbnggficlcfaa
open Go.RowKit Go.Shelf
set_option maxRecDepth 100000 in
set_option maxHeartbeats 4000000 in
theorem spans_any (L : List (Int × Int)) (A : Option Addr) (c : Nat) (hl : L.length ≤ 1000000) (w : World) (r : Prs w w.heap.size A L) :
    Calls Try.prog 36 #[.slice A L.length c] w fun e w' => ∃ v, e = .returned v ∧ w'.ownsRow w.heap.size 72 2 v L.length (flat2 L) ∧ Below w.heap.size w w' := by
  have HR := hid r
  obtain ⟨n, hn⟩ : ∃ n, n = L.length := ⟨_, rfl⟩
  rw [← hn] at hl ⊢
  have HN := hid hn
  clear r hn
  go_enter Try.func36, Try.ntmps36
  go_wp2_with fail
  go_loopw [3, 4] (fun vv kv wr => ∃ k : Nat, k ≤ n ∧ kv = .int .i64 k ∧ Hid (wr.ownsRow w.heap.size 72 2 vv k (flat2 (L.take k))) ∧ Hid (Below w.heap.size w wr)) (fun _ kv _ => n - (intOf kv).toNat)
  case atStart => exact ⟨0, by omega, rfl, World.ownsRow_nil _ _ _ _, Below.refl _ _⟩
  case round =>
    obtain ⟨k, hk, rfl, hO, hB⟩ := hrel
    obtain ⟨A6, c6, rfl⟩ := own_slice hO.out
    by_cases hkn : k < n
    · have hkl : k < L.length := by rw [← HN.out]; exact hkn
      obtain ⟨b, o, rfl, hb, hc⟩ := HR.out.at (by omega)
      have hx := (hc k hkl).below hB.out hb
      have hst : L.take (k + 1) = L.take k ++ [L[k]'hkl] := by rw [List.take_add_one, List.getElem?_eq_getElem hkl, Option.toList_some]
      generalize L[k]'hkl = p at hx hst
      obtain ⟨x1, x2⟩ := p
      have d1 := hx.p1; have d2 := hx.p2
      simp only [] at d1 d2
      have g0 : (k : Int) < (n : Int) := by omega
      have HST := hid hst; have HO := hid hO.out; have HB := hid hB.out
      have HOA := hid fun (X : Obj) => own_keep hO.out (((Below.refl wr.heap.size wr).drew).alloc (Nat.le_refl _) X)
      have HBA := hid fun (X : Obj) => (hB.out.drew).alloc hB.out.size X
      clear hst hO hB hx hc
      go_wp2_with fail
      go_region_law (refine step_two Try.underlying50 Try.infoPair rfl (.tmp 11) (.tmp 23) rfl w.heap.size _ k (L.take k) rfl (HOA.out _) ⟨wr.heap.size, 0, none⟩ (x1, x2) (by simp [Act.eval]) (cell_news wr.drew (cells2 (x1, x2)) 72) (by omega) (HBA.out _).size ?_; intro v4 w4 ho4 hg4; have HB4 := hid (below_app (HBA.out _) (HOA.out _) hg4 (Nat.le_refl _) (HBA.out _).size); obtain ⟨A8, c8, rfl⟩ := own_slice ho4; have HO4 := hid ho4; clear ho4 hg4)
      all_goals
        go_wp2_with fail
        go_roundw
        case rel => exact ⟨k + 1, by omega, by go_num, by rw [HST.out]; exact HO4, HB4⟩
        case measure => simp [intOf]; omega
    · obtain rfl : n = k := by omega
      have g0 : decide (n < n) = false := by simp
      have hO2 := hO.out
      rw [HN.out, List.take_length, ← HN.out] at hO2
      have HO2 := hid hO2
      clear hO hO2
      go_wp2_with fail
      go_ret
      exact ⟨_, rfl, HO2.out, hB.out⟩
end Go.Proofs.Ytddbnggficlcfaa

/- WALK: the law GroupsLines. -/
namespace Go.Proofs.Ytddbnggficlcfaa
open Go.RowKit
theorem mks_out {E : Int} {L : List Mk} {W : World} {e : Ending} {w' : World} (hp : MksPost E L W e w') : ∃ (A' : Option Addr) (c' : Nat), e = .returned (.tuple #[.slice A' L.length c', .int .i64 E]) ∧ Mks w' w'.heap.size A' L ∧ Below W.heap.size W w' := by
  obtain ⟨v, rfl, ho, hb⟩ := hp
  obtain ⟨A', c', rfl⟩ := own_slice ho
  exact ⟨A', c', rfl, Reads.of_own ho, hb⟩
theorem prs_out {T : TypeId} {E : Int} {L : List (Int × Int)} {W : World} {e : Ending} {w' : World} (hp : RngPost T E L W e w') : ∃ (A' : Option Addr) (c' : Nat), e = .returned (.tuple #[.slice A' L.length c', .int .i64 E]) ∧ Prs w' w'.heap.size A' L ∧ Below W.heap.size W w' := by
  obtain ⟨v, rfl, ho, hb⟩ := hp
  obtain ⟨A', c', rfl⟩ := own_slice ho
  exact ⟨A', c', rfl, Reads.of_own ho, hb⟩
theorem mks_same {w : World} {L : List Mk} {A B : Option Addr} (n : Nat) (hn : n = L.length) (h : n ≤ 1000000) (c d : Nat) (ra : Mks w w.heap.size A L) (rb : Mks w w.heap.size B L) : Calls Try.prog 34 #[.slice A n c, .slice B n d] w fun e w' => e = .returned (.bool true) ∧ Below w.heap.size w w' := by
  subst hn
  exact (sameMarks_any L L A B c d h h w ra rb).mono fun e w' hb => hb.get (iff_of_true rfl rfl)
theorem prs_same {w : World} {L : List (Int × Int)} {A B : Option Addr} (n : Nat) (hn : n = L.length) (h : n ≤ 1000000) (c d : Nat) (ra : Prs w w.heap.size A L) (rb : Prs w w.heap.size B L) : Calls Try.prog 35 #[.slice A n c, .slice B n d] w fun e w' => e = .returned (.bool true) ∧ Below w.heap.size w w' := by
  subst hn
  exact (sameRings_any L L A B c d h h w ra rb).mono fun e w' hb => hb.get (iff_of_true rfl rfl)
theorem spans_out {w : World} {L : List (Int × Int)} {A : Option Addr} (n : Nat) (hn : n = L.length) (h : n ≤ 1000000) (c : Nat) (ra : Prs w w.heap.size A L) : Calls Try.prog 36 #[.slice A n c] w fun e w' => ∃ (A' : Option Addr) (c' : Nat), e = .returned (.slice A' n c') ∧ Prs w' w'.heap.size A' L ∧ Below w.heap.size w w' := by
  subst hn
  refine (spans_any L A c h w ra).mono ?_
  rintro e w' ⟨v, rfl, ho, hb⟩
  obtain ⟨A', c', rfl⟩ := own_slice ho
  exact ⟨A', c', rfl, Reads.of_own ho, hb⟩
theorem linL_core {P : Int} {ss ss' : List Sg} (h : ss'.map Sg.core = ss.map Sg.core) (l : List Nd) : linL P ss' l = linL P ss l := by unfold linL; rw [chkE_core h]
theorem rngL_core {P : Int} {ss ss' : List Sg} (h : ss'.map Sg.core = ss.map Sg.core) (l : List Nd) : rngL P ss' l = rngL P ss l := by unfold rngL; rw [chkE_core h]
theorem ordE_core {P : Int} {ss ss' : List Sg} (h : ss'.map Sg.core = ss.map Sg.core) (l : List Nd) : ordE P ss' l = ordE P ss l ∧ ordL P ss' l = ordL P ss l := by
  have h1 : ordE P ss' l = ordE P ss l := by unfold ordE; rw [chkE_core h]
  exact ⟨h1, by unfold ordL; rw [h1]⟩
theorem marks_len (l : List Nd) : (marks l).length ≤ l.length := by unfold marks; rw [List.length_map]; exact leaves_len l
theorem linL_len {P : Int} {ss : List Sg} {l : List Nd} : (linL P ss l).length ≤ l.length := by
  unfold linL
  split
  · exact marks_len l
  · simp
theorem ordL_len {P : Int} {ss : List Sg} {l : List Nd} : (ordL P ss l).length ≤ l.length := by
  unfold ordL
  split
  · unfold sgns; rw [List.length_map]; exact marks_len l
  · simp
theorem rngL_len {P : Int} {ss : List Sg} {l : List Nd} : (rngL P ss l).length ≤ l.length := by
  unfold rngL
  split
  · unfold spans ringsOf
    rw [List.length_map]
    have := rgs_len (l := l) (l.length + 1) (-1) 0 (by omega) (by omega)
    have e : span l (-1) = l.length := if_neg (by omega)
    rwa [e] at this
  · simp
set_option maxRecDepth 100000 in
set_option maxHeartbeats 8000000 in
theorem lines_law (P : Int) (ss : List Sg) (l : List Nd) (A A2 : Option Addr) (c c2 : Nat) (hl : ss.length ≤ 9223372036854775807) (hv : ∀ s ∈ ss, s.vals.length ≤ 9223372036854775807) (w : World) (rs : Sgs w w.heap.size A ss) (rn : Nds w w.heap.size A2 l) :
    Calls Try.prog 5 #[.agg #[.int .i64 P, .slice A ss.length c, .slice A2 l.length c2]] w fun e w' => e = .returned (.bool true) ∧ Below w.heap.size w w' := by
  obtain ⟨r1, hr1⟩ : ∃ x : Bool, (x = true ↔ BigP ss l) := by
    by_cases h : BigP ss l
    · exact ⟨true, iff_of_true rfl h⟩
    · exact ⟨false, iff_of_false (by simp) h⟩
  have hsm := fun h : ¬ BigP ss l => small_of h
  obtain ⟨w1, hw1⟩ : ∃ w1, w1 = w.alloc (.cells #[.int .i64 P, .slice A ss.length c, .slice A2 l.length c2] 29) := ⟨_, rfl⟩
  have hb1 : Below w.heap.size w w1 := by rw [hw1]; exact (Below.refl _ _).alloc (Nat.le_refl _) _
  have hz1 : w.heap.size < w1.heap.size := by rw [hw1]; simp
  have c0 : w1.cell? ⟨w.heap.size, 0, none⟩ = some (.int .i64 P) := by rw [hw1]; exact cell_here rfl rfl
  have c1 : w1.cell? ⟨w.heap.size, 1, none⟩ = some (.slice A ss.length c) := by rw [hw1]; exact cell_here rfl rfl
  have c3 : w1.cell? ⟨w.heap.size, 2, none⟩ = some (.slice A2 l.length c2) := by rw [hw1]; exact cell_here rfl rfl
  have HBG := hid ((bigP_any P ss l A A2 c c2 hl hv w1 ((rs.below hb1).more hb1.size)).mono fun e w' hb => hb.get hr1)
  have hF1 := fun (s1 : ss.length ≤ 30) (s2 : l.length ≤ 210) (s3 : ∀ s ∈ ss, s.vals.length ≤ 20) (ss' : List Sg) (A3 A4 : Option Addr) (c3 c4 : Nat) (W : World) (hp : Copies ss l ss' A3 A4 c3 c4 W) (h : Below w1.heap.size w1 W) =>
    (by have := lineE_any P ss' l (by rw [hp.len]; omega) (hp.vals s3) (by omega) A3 A4 c3 c4 W hp.sg hp.nd; rw [chkE_core hp.core l, linL_core hp.core l] at this; exact this.mono fun e w' hx => mks_out hx : Calls Try.prog 28 #[.agg #[.int .i64 P, .slice A3 ss'.length c3], .agg #[.slice A4 l.length c4]] W fun e w' => ∃ (A' : Option Addr) (c' : Nat), e = .returned (.tuple #[.slice A' (linL P ss l).length c', .int .i64 (chkE P ss l)]) ∧ Mks w' w'.heap.size A' (linL P ss l) ∧ Below W.heap.size W w')
  have hF2 := fun (s1 : ss.length ≤ 30) (s2 : l.length ≤ 210) (s3 : ∀ s ∈ ss, s.vals.length ≤ 20) (ss' : List Sg) (A3 A4 : Option Addr) (c3 c4 : Nat) (W : World) (hp : Copies ss l ss' A3 A4 c3 c4 W) (h : Below w1.heap.size w1 W) =>
    (by have := orderE_any P ss' l (by rw [hp.len]; omega) (hp.vals s3) (by omega) (Nat.le_trans (marks_len l) (by omega)) A3 A4 c3 c4 W hp.sg hp.nd; rw [(ordE_core hp.core l).1, (ordE_core hp.core l).2] at this; exact this.mono fun e w' hx => ints_out hx : Calls Try.prog 30 #[.agg #[.int .i64 P, .slice A3 ss'.length c3], .agg #[.slice A4 l.length c4]] W fun e w' => ∃ (A' : Option Addr) (c' : Nat), e = .returned (.tuple #[.slice A' (ordL P ss l).length c', .int .i64 (ordE P ss l)]) ∧ Rd w' w'.heap.size A' (ordL P ss l) ∧ Below W.heap.size W w')
  have hF3 := fun (s1 : ss.length ≤ 30) (s2 : l.length ≤ 210) (s3 : ∀ s ∈ ss, s.vals.length ≤ 20) (ss' : List Sg) (A3 A4 : Option Addr) (c3 c4 : Nat) (W : World) (hp : Copies ss l ss' A3 A4 c3 c4 W) (h : Below w1.heap.size w1 W) =>
    (by have := ringE_any P ss' l (by rw [hp.len]; omega) (hp.vals s3) (by omega) A3 A4 c3 c4 W hp.sg hp.nd; rw [chkE_core hp.core l, rngL_core hp.core l] at this; exact this.mono fun e w' hx => prs_out hx : Calls Try.prog 32 #[.agg #[.int .i64 P, .slice A3 ss'.length c3], .agg #[.slice A4 l.length c4]] W fun e w' => ∃ (A' : Option Addr) (c' : Nat), e = .returned (.tuple #[.slice A' (rngL P ss l).length c', .int .i64 (chkE P ss l)]) ∧ Prs w' w'.heap.size A' (rngL P ss l) ∧ Below W.heap.size W w')
  have hG1 := fun (s1 : ss.length ≤ 30) (s2 : l.length ≤ 210) (s3 : ∀ s ∈ ss, s.vals.length ≤ 20) (W : World) (h : Below w1.heap.size w1 W) =>
    (refLine_any P ss l (by omega) (fun s hs => by have := s3 s hs; omega) (by omega) A A2 c c2 W ((rs.below (hb1.trans (h.mono hb1.size))).more (Nat.le_trans hb1.size h.size)) ((rn.below (hb1.trans (h.mono hb1.size))).more (Nat.le_trans hb1.size h.size))).mono fun e w' hx => mks_out hx
  have hG2 := fun (s1 : ss.length ≤ 30) (s2 : l.length ≤ 210) (s3 : ∀ s ∈ ss, s.vals.length ≤ 20) (W : World) (h : Below w1.heap.size w1 W) =>
    (refOrder_any P ss l (by omega) (fun s hs => by have := s3 s hs; omega) (by omega) A A2 c c2 W ((rs.below (hb1.trans (h.mono hb1.size))).more (Nat.le_trans hb1.size h.size)) ((rn.below (hb1.trans (h.mono hb1.size))).more (Nat.le_trans hb1.size h.size))).mono fun e w' hx => ints_out hx
  have hG3 := fun (s1 : ss.length ≤ 30) (s2 : l.length ≤ 210) (s3 : ∀ s ∈ ss, s.vals.length ≤ 20) (W : World) (h : Below w1.heap.size w1 W) =>
    (refRings_any P ss l (by omega) (fun s hs => by have := s3 s hs; omega) (by omega) A A2 c c2 W ((rs.below (hb1.trans (h.mono hb1.size))).more (Nat.le_trans hb1.size h.size)) ((rn.below (hb1.trans (h.mono hb1.size))).more (Nat.le_trans hb1.size h.size))).mono fun e w' hx => prs_out hx
  have hk1 := linL_len (P := P) (ss := ss) (l := l)
  have hk2 := ordL_len (P := P) (ss := ss) (l := l)
  have hk3 := rngL_len (P := P) (ss := ss) (l := l)
  generalize chkE P ss l = E1 at hF1 hG1 hF3 hG3
  generalize linL P ss l = L1 at hF1 hG1 hk1
  generalize ordE P ss l = E2 at hF2 hG2
  generalize ordL P ss l = L2 at hF2 hG2 hk2
  generalize rngL P ss l = L3 at hF3 hG3 hk3
  have hrs := rs; have hrn := rn
  obtain ⟨N, hN⟩ : ∃ N, N = ss.length := ⟨_, rfl⟩
  obtain ⟨n, hn⟩ : ∃ n, n = l.length := ⟨_, rfl⟩
  rw [← hN] at c1 hw1 HBG ⊢
  rw [← hn] at c3 hw1 HBG ⊢
  have HW1 := hid hw1; have HB1 := hid hb1; have HSM := hid hsm; have HR1 := hid hr1; have HNN := hid hN; have HNl := hid hn; have HRS := hid hrs; have HRN := hid hrn
  have HF1 := hid hF1; have HF2 := hid hF2; have HF3 := hid hF3; have HG1 := hid hG1; have HG2 := hid hG2; have HG3 := hid hG3
  have HK1 := hid hk1; have HK2 := hid hk2; have HK3 := hid hk3
  clear hF1 hF2 hF3 hG1 hG2 hG3 hk1 hk2 hk3
  have HW : Hid (∀ wr, Below w1.heap.size w1 wr → Below w.heap.size w wr) := fun wr h => hb1.trans (h.mono (by omega))
  have HWK := hid fun (W : World) => works_any W
  have HC0 := hid fun (wr : World) (h : Below w1.heap.size w1 wr) => (h.cell (p := ⟨w.heap.size, 0, none⟩) hz1).trans c0
  have HC1 := hid fun (wr : World) (h : Below w1.heap.size w1 wr) => (h.cell (p := ⟨w.heap.size, 1, none⟩) hz1).trans c1
  have HC3 := hid fun (wr : World) (h : Below w1.heap.size w1 wr) => (h.cell (p := ⟨w.heap.size, 2, none⟩) hz1).trans c3
  clear hw1 rs rn hsm hr1 hN hn hv hl hb1 hrs hrn
  go_enter Try.func5, Try.ntmps5
  go_upto_region 1 with (fail)
  rw [← HW1.out]
  clear HW1
  obtain ⟨B0, hB0⟩ : ∃ B0, B0 = w.heap.size := ⟨_, rfl⟩
  rw [← hB0] at c0 c1 c3 hz1 HC0 HC1 HC3 ⊢
  clear hB0
  cases r1 with
  | true =>
    go_wp2_with (first | (go_at_call 15; refine HBG.out.mono ?_; rintro e w2 ⟨rfl, hb2⟩; have HB2 := hid hb2; clear hb2 c0 c1 c3) | (go_at_call 16; refine (HWK.out _).mono ?_; rintro e w3 ⟨rfl, hb3⟩; have HB3 := hid (bnext HB2.out hb3); clear hb3))
    go_ret
    exact ⟨rfl, HW.out _ HB3.out⟩
  | false =>
    obtain ⟨s1, s2, s3⟩ := HSM.out (fun h => by have := HR1.out.2 h; cases this)
    have HLI := hid fun (W : World) (h : Below w1.heap.size w1 W) => list_at (P := P) (c := c) (V := .slice A2 n c2) s1 s3 (HW.out _ (Below.refl _ _)) HRS.out W h
    have HTX := hid fun (W : World) (h : Below w1.heap.size w1 W) => text_at (P := P) (A := A) (N := N) (c := c) (c2 := c2) s2 (HW.out _ (Below.refl _ _)) HRN.out W h
    rw [← HNN.out] at HLI
    rw [← HNl.out] at HTX
    replace HF1 := hid (HF1.out s1 s2 s3); replace HF2 := hid (HF2.out s1 s2 s3); replace HF3 := hid (HF3.out s1 s2 s3); replace HG1 := hid (HG1.out s1 s2 s3); replace HG2 := hid (HG2.out s1 s2 s3); replace HG3 := hid (HG3.out s1 s2 s3)
    rw [← HNl.out] at HF1 HF2 HF3 HG1 HG2 HG3
    rw [← HNN.out] at HG1 HG2 HG3
    have hk1 := HK1.out; have hk2 := HK2.out; have hk3 := HK3.out
    obtain ⟨n1, hn1⟩ : ∃ n1, n1 = L1.length := ⟨_, rfl⟩
    obtain ⟨n2, hn2⟩ : ∃ n2, n2 = L2.length := ⟨_, rfl⟩
    obtain ⟨n3, hn3⟩ : ∃ n3, n3 = L3.length := ⟨_, rfl⟩
    rw [← hn1] at HF1 HG1 hk1
    rw [← hn2] at HF2 HG2 hk2
    rw [← hn3] at HF3 HG3 hk3
    have HN1 := hid hn1; have HN2 := hid hn2; have HN3 := hid hn3
    have hs1 : n1 ≤ 1000000 := by omega
    have hs2 : n2 ≤ 1000000 := by omega
    have hs3 : n3 ≤ 1000000 := by omega
    clear hk1 hk2 hk3 hn1 hn2 hn3
    go_upto_region 3 with (first | (go_at_call 15; refine HBG.out.mono ?_; rintro e w2 ⟨rfl, hb2⟩; have HB2 := hid hb2; clear hb2 c0 c1 c3))
    have q0 := HC0.out w2 HB2.out; have q1 := HC1.out w2 HB2.out; have q3 := HC3.out w2 HB2.out
    go_region_held3 (fun w' => w'.cell? ⟨B0, 0, none⟩ = some (.int .i64 P) ∧ w'.cell? ⟨B0, 1, none⟩ = some (.slice A N c) ∧ w'.cell? ⟨B0, 2, none⟩ = some (.slice A2 n c2)) (first | exact ⟨q0, q1, q3⟩ | exact ⟨HC0.out _ HB30.out, HC1.out _ HB30.out, HC3.out _ HB30.out⟩ | exact ⟨HC0.out _ HB31.out, HC1.out _ HB31.out, HC3.out _ HB31.out⟩ | exact ⟨HC0.out _ HB32.out, HC1.out _ HB32.out, HC3.out _ HB32.out⟩ | exact ⟨cell_old (HC0.out _ HB32.out), cell_old (HC1.out _ HB32.out), cell_old (HC3.out _ HB32.out)⟩ | fail) (first | (go_at_call 17; refine (HLI.out _ (by first | exact HB2.out.drew | exact HB2.out)).mono ?_; rintro e w30 ⟨A30, c30, ss30, rfl, hl30, hb30⟩; have HL30 := hid hl30; have HB30 := hid (bnext (by first | exact HB2.out.drew | exact HB2.out) hb30); clear hl30 hb30) | (go_at_call 18; refine (HTX.out _ HB30.out).mono ?_; rintro e w31 ⟨A31, c31, rfl, ho31, hb31⟩; have HP31 := hid (Copies.mk' (c4 := c31) HL30.out hb31 (by rw [← HNl.out]; exact ho31)); have HB31 := hid (bnext HB30.out hb31); clear ho31 hb31) | (go_at_call 28; refine (HF1.out _ _ _ _ _ _ HP31.out HB31.out).mono ?_; rintro e w32 ⟨A32, c32, rfl, hr32, hb32⟩; have HR32 := hid hr32; have HB32 := hid (bnext HB31.out hb32); clear hr32; clear hb32))
    clear q0 q1 q3
    have q0 := HC0.out w32 HB32.out; have q1 := HC1.out w32 HB32.out; have q3 := HC3.out w32 HB32.out
    go_upto_region 5 with (first | (go_at_call 29; refine (HG1.out _ HB32.out).mono ?_; rintro e w4 ⟨A4, c4, rfl, hr4, hb4⟩; have HR4 := hid hr4; have HB4 := hid (bnext HB32.out hb4); replace HR32 := hid (rdn HR32.out hb4); clear hr4 hb4 q0 q1 q3))
    have q0 := HC0.out w4 HB4.out; have q1 := HC1.out w4 HB4.out; have q3 := HC3.out w4 HB4.out
    go_region_held3 (fun w' => w'.cell? ⟨B0, 0, none⟩ = some (.int .i64 P) ∧ w'.cell? ⟨B0, 1, none⟩ = some (.slice A N c) ∧ w'.cell? ⟨B0, 2, none⟩ = some (.slice A2 n c2)) (first | exact ⟨q0, q1, q3⟩ | exact ⟨HC0.out _ HB50.out, HC1.out _ HB50.out, HC3.out _ HB50.out⟩ | exact ⟨HC0.out _ HB51.out, HC1.out _ HB51.out, HC3.out _ HB51.out⟩ | exact ⟨HC0.out _ HB52.out, HC1.out _ HB52.out, HC3.out _ HB52.out⟩ | exact ⟨cell_old (HC0.out _ HB52.out), cell_old (HC1.out _ HB52.out), cell_old (HC3.out _ HB52.out)⟩ | fail) (first | (go_at_call 17; refine (HLI.out _ (by first | exact HB4.out.drew | exact HB4.out)).mono ?_; rintro e w50 ⟨A50, c50, ss50, rfl, hl50, hb50⟩; have HL50 := hid hl50; have HB50 := hid (bnext (by first | exact HB4.out.drew | exact HB4.out) hb50); (first | replace HR32 := hid (rdn HR32.out hb50) | replace HR32 := hid (rdn_d HR32.out hb50)); (first | replace HR4 := hid (rdn HR4.out hb50) | replace HR4 := hid (rdn_d HR4.out hb50)); clear hl50 hb50) | (go_at_call 18; refine (HTX.out _ HB50.out).mono ?_; rintro e w51 ⟨A51, c51, rfl, ho51, hb51⟩; have HP51 := hid (Copies.mk' (c4 := c51) HL50.out hb51 (by rw [← HNl.out]; exact ho51)); have HB51 := hid (bnext HB50.out hb51); (first | replace HR32 := hid (rdn HR32.out hb51) | replace HR32 := hid (rdn_d HR32.out hb51)); (first | replace HR4 := hid (rdn HR4.out hb51) | replace HR4 := hid (rdn_d HR4.out hb51)); clear ho51 hb51) | (go_at_call 30; refine (HF2.out _ _ _ _ _ _ HP51.out HB51.out).mono ?_; rintro e w52 ⟨A52, c52, rfl, hr52, hb52⟩; have HR52 := hid hr52; have HB52 := hid (bnext HB51.out hb52); clear hr52; (first | replace HR32 := hid (rdn HR32.out hb52) | replace HR32 := hid (rdn_d HR32.out hb52)); (first | replace HR4 := hid (rdn HR4.out hb52) | replace HR4 := hid (rdn_d HR4.out hb52)); clear hb52))
    clear q0 q1 q3
    have q0 := HC0.out w52 HB52.out; have q1 := HC1.out w52 HB52.out; have q3 := HC3.out w52 HB52.out
    go_upto_region 7 with (first | (go_at_call 31; refine (HG2.out _ HB52.out).mono ?_; rintro e w6 ⟨A6, c6, rfl, hr6, hb6⟩; have HR6 := hid hr6; have HB6 := hid (bnext HB52.out hb6); replace HR32 := hid (rdn HR32.out hb6); replace HR4 := hid (rdn HR4.out hb6); replace HR52 := hid (rdn HR52.out hb6); clear hr6 hb6 q0 q1 q3))
    have q0 := HC0.out w6 HB6.out; have q1 := HC1.out w6 HB6.out; have q3 := HC3.out w6 HB6.out
    go_region_held3 (fun w' => w'.cell? ⟨B0, 0, none⟩ = some (.int .i64 P) ∧ w'.cell? ⟨B0, 1, none⟩ = some (.slice A N c) ∧ w'.cell? ⟨B0, 2, none⟩ = some (.slice A2 n c2)) (first | exact ⟨q0, q1, q3⟩ | exact ⟨HC0.out _ HB70.out, HC1.out _ HB70.out, HC3.out _ HB70.out⟩ | exact ⟨HC0.out _ HB71.out, HC1.out _ HB71.out, HC3.out _ HB71.out⟩ | exact ⟨HC0.out _ HB72.out, HC1.out _ HB72.out, HC3.out _ HB72.out⟩ | exact ⟨cell_old (HC0.out _ HB72.out), cell_old (HC1.out _ HB72.out), cell_old (HC3.out _ HB72.out)⟩ | fail) (first | (go_at_call 17; refine (HLI.out _ (by first | exact HB6.out.drew | exact HB6.out)).mono ?_; rintro e w70 ⟨A70, c70, ss70, rfl, hl70, hb70⟩; have HL70 := hid hl70; have HB70 := hid (bnext (by first | exact HB6.out.drew | exact HB6.out) hb70); (first | replace HR32 := hid (rdn HR32.out hb70) | replace HR32 := hid (rdn_d HR32.out hb70)); (first | replace HR4 := hid (rdn HR4.out hb70) | replace HR4 := hid (rdn_d HR4.out hb70)); (first | replace HR52 := hid (rdn HR52.out hb70) | replace HR52 := hid (rdn_d HR52.out hb70)); (first | replace HR6 := hid (rdn HR6.out hb70) | replace HR6 := hid (rdn_d HR6.out hb70)); clear hl70 hb70) | (go_at_call 18; refine (HTX.out _ HB70.out).mono ?_; rintro e w71 ⟨A71, c71, rfl, ho71, hb71⟩; have HP71 := hid (Copies.mk' (c4 := c71) HL70.out hb71 (by rw [← HNl.out]; exact ho71)); have HB71 := hid (bnext HB70.out hb71); (first | replace HR32 := hid (rdn HR32.out hb71) | replace HR32 := hid (rdn_d HR32.out hb71)); (first | replace HR4 := hid (rdn HR4.out hb71) | replace HR4 := hid (rdn_d HR4.out hb71)); (first | replace HR52 := hid (rdn HR52.out hb71) | replace HR52 := hid (rdn_d HR52.out hb71)); (first | replace HR6 := hid (rdn HR6.out hb71) | replace HR6 := hid (rdn_d HR6.out hb71)); clear ho71 hb71) | (go_at_call 32; refine (HF3.out _ _ _ _ _ _ HP71.out HB71.out).mono ?_; rintro e w72 ⟨A72, c72, rfl, hr72, hb72⟩; have HR72 := hid hr72; have HB72 := hid (bnext HB71.out hb72); clear hr72; (first | replace HR32 := hid (rdn HR32.out hb72) | replace HR32 := hid (rdn_d HR32.out hb72)); (first | replace HR4 := hid (rdn HR4.out hb72) | replace HR4 := hid (rdn_d HR4.out hb72)); (first | replace HR52 := hid (rdn HR52.out hb72) | replace HR52 := hid (rdn_d HR52.out hb72)); (first | replace HR6 := hid (rdn HR6.out hb72) | replace HR6 := hid (rdn_d HR6.out hb72)); clear hb72))
    clear q0 q1 q3
    have q0 := HC0.out w72 HB72.out; have q1 := HC1.out w72 HB72.out; have q3 := HC3.out w72 HB72.out
    go_upto_region 9 with (first | (go_at_call 33; refine (HG3.out _ HB72.out).mono ?_; rintro e w8 ⟨A8, c8, rfl, hr8, hb8⟩; have HR8 := hid hr8; have HB8 := hid (bnext HB72.out hb8); replace HR32 := hid (rdn HR32.out hb8); replace HR4 := hid (rdn HR4.out hb8); replace HR52 := hid (rdn HR52.out hb8); replace HR6 := hid (rdn HR6.out hb8); replace HR72 := hid (rdn HR72.out hb8); clear hr8 hb8 q0 q1 q3))
    have hwk := HWK.out
    have HS1 := hid (mks_same n1 HN1.out hs1 c32 c4 HR32.out HR4.out)
    go_wp2_with (first | (go_at_call 34; refine HS1.out.mono ?_; rintro e w9 ⟨rfl, hb9⟩; have HB9 := hid (bnext HB8.out hb9); have HS2 := hid (ints_same n2 HN2.out hs2 c52 c6 (rdn HR52.out hb9) (rdn HR6.out hb9)); replace HR72 := hid (rdn HR72.out hb9); replace HR8 := hid (rdn HR8.out hb9); clear hb9 HS1) | (go_at_call 27; refine HS2.out.mono ?_; rintro e w10 ⟨rfl, hb10⟩; have HB10 := hid (bnext HB9.out hb10); have HSP := hid (spans_out n3 HN3.out hs3 c72 (rdn HR72.out hb10)); replace HR8 := hid (rdn HR8.out hb10); clear hb10 HS2) | (go_at_call 36; refine HSP.out.mono ?_; rintro e w11 ⟨A11, c11, rfl, hr11, hb11⟩; have HB11 := hid (bnext HB10.out hb11); have HS3 := hid (prs_same n3 HN3.out hs3 c11 c8 hr11 (rdn HR8.out hb11)); clear hb11 hr11 HSP) | (go_at_call 35; refine HS3.out.mono ?_; rintro e w12 ⟨rfl, hb12⟩; have HB12 := hid (bnext HB11.out hb12); clear hb12 HS3) | (go_at_call 16; refine (HWK.out _).mono ?_; rintro e w13 ⟨rfl, hb13⟩; have HB13 := hid (bnext HB12.out hb13); clear hb13))
    go_ret
    exact ⟨rfl, HW.out _ HB13.out⟩
end Go.Proofs.Ytddbnggficlcfaa
