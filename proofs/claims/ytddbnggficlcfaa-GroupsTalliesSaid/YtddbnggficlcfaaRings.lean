/- WALK: groups.rings: the rings of a valid text. -/
import Derived.Test.YtddbnggficlcfaaLinesO
namespace Go.Proofs.Ytddbnggficlcfaa
open Go.RowKit Go.Shelf
/-- Pairs of numbers as cells. -/
def cells2 (p : Int × Int) : List Value := [.int .i64 p.1, .int .i64 p.2]
def flat2 (l : List (Int × Int)) : List Value := l.flatMap cells2
theorem flat2_app (xs ys : List (Int × Int)) : flat2 (xs ++ ys) = flat2 xs ++ flat2 ys := by unfold flat2; rw [List.flatMap_append]
theorem flat2_len (l : List (Int × Int)) : (flat2 l).length = l.length * 2 := by
  unfold flat2
  induction l with
  | nil => rfl
  | cons a l ih => rw [List.flatMap_cons, List.length_append, ih, List.length_cons]; simp only [cells2, List.length_cons, List.length_nil]; omega
def spOf (r : Nat × Nat × Nat) : Int × Int := (r.2.1, r.2.2)
theorem Try.infoSpan : (Try.prog.info? 95).map (fun i => (i.zero, i.size, i.bytes)) = some (some (.agg #[.int .i64 0, .int .i64 0]), 2, 16) := by kernel_rfl
theorem Try.infoPair : (Try.prog.info? 72).map (fun i => (i.zero, i.size, i.bytes)) = some (some (.agg #[.int .i64 0, .int .i64 0]), 2, 16) := by kernel_rfl
theorem wp_two {t T : TypeId} (ht : Try.prog.underlying T = some (.slice t)) (hinfo : (Try.prog.info? t).map (fun i => (i.zero, i.size, i.bytes)) = some (some (.agg #[.int .i64 0, .int .i64 0]), 2, 16)) {o : Oper} {a : Act} {w : World} {K : Act → World → Prop} {Q : Exit → Act → World → Prop} (s x : Operand)
    (ho : o.op = .call { callee := .builtin .append, args := #[s, x], argTypes := #[T, T] })
    (base : Nat) (v : Value) (n : Nat) (xs : List (Int × Int)) (hs : a.eval s = v) (hown : w.ownsRow base t 2 v n (flat2 xs))
    (ad : Addr) (m : Int × Int) (hx : a.eval x = .slice (some ad) 1 1) (hp : ∀ j u, (cells2 m)[j]? = some u → w.cell? (ad.add j) = some u) (hn : n ≤ 1000000) (hbase : base ≤ w.heap.size)
    (h : ∀ v' w', w'.ownsRow base t 2 v' (n + 1) (flat2 (xs ++ [m])) → w.grownBy w' v.ownBlock → K (a.put o.dst v') w') :
    o.wp Try.prog a w K Q := by
  obtain ⟨i0, hi, hz0, hzz, hz2⟩ := info_parts hinfo
  refine wp_append_own w s x _ ho base _ i0 _ 2 16 ht hi hz0 hzz hz2 rfl (by decide) v n (flat2 xs) hs hown ad 1 1 (cells2 m) hx rfl hp (fun u hu => ?_) (by unfold maxLen; omega) (by omega) hbase (fun v' w' a b _ => h v' w' (by rw [flat2_app]; simpa [flat2] using a) b)
  simp only [cells2, List.mem_cons, List.not_mem_nil, or_false] at hu
  rcases hu with rfl | rfl <;> rfl
/-- What rings keeps: the text's box, the cell of the spans, the spans. -/
structure LR (l : List Nd) (A : Option Addr) (c B0 : Nat) (w : World) (ls : List (Nat × Nat × Nat)) (W : World) : Prop where
  t_ : W.heap[B0]? = some (.cells #[.slice A l.length c] 27 (0, 0))
  o_ : ∃ v, W.heap[B0 + 1]? = some (.cells #[v] 47 (0, 0)) ∧ W.ownsRow (B0 + 7) 95 2 v ls.length (flat2 (ls.map spOf))
  bel : Below B0 w W
theorem LR.below {l : List Nd} {A : Option Addr} {c B0 : Nat} {w : World} {ls : List (Nat × Nat × Nat)} {W W' : World} (h : LR l A c B0 w ls W) (hb : Below W.heap.size W W') : LR l A c B0 w ls W' := by
  obtain ⟨v, h1, h2⟩ := h.o_
  exact ⟨(hb.block _ (lt_of_block h.t_)).trans h.t_, ⟨v, (hb.block _ (lt_of_block h1)).trans h1, own_keep h2 hb⟩, h.bel.trans (hb.mono (by have := lt_of_block h.t_; omega))⟩
theorem LR.read {l : List Nd} {A : Option Addr} {c B0 : Nat} {w : World} {ls : List (Nat × Nat × Nat)} {W : World} (h : LR l A c B0 w ls W) (v : Value) : LR l A c B0 w ls (W.setCell ⟨B0 + 2 + 3, 0, none⟩ v) := by
  obtain ⟨u, h1, h2⟩ := h.o_
  exact ⟨(Below.heap_setCell _ _ _ _ (by simp <;> omega)).trans h.t_, ⟨u, (Below.heap_setCell _ _ _ _ (by simp <;> omega)).trans h1, ownsRow_setCell_other h2 (a := ⟨B0 + 2 + 3, 0, none⟩) (fun he => by have := (h2.lt _ he).1; simp at this; omega) v⟩, h.bel.setCell (by simp; omega) _⟩
/-- The step of rings$2: a span is appended, and its cell is stored. -/
theorem ring_next {l : List Nd} {A : Option Addr} {c n0 B0 : Nat} {i : Nat × Nat × Nat} {w W w3 w4 : World} {ls : List (Nat × Nat × Nat)} {v v4 : Value} {mk : Int × Int} {X : Obj} (hn0 : n0 ≤ B0) (hsz : B0 + 2 + 5 ≤ W.heap.size) (hJ : LR l A c B0 w ls W) (ho : W.heap[B0 + 1]? = some (.cells #[v] 47 (0, 0)))
    (hown : W.ownsRow (B0 + 7) 95 2 v ls.length (flat2 (ls.map spOf))) (hmk : mk = spOf i) (hb3 : Below W.heap.size W w3) (ho4 : w4.ownsRow (B0 + 7) 95 2 v4 (ls.length + 1) (flat2 (ls.map spOf ++ [mk]))) (hg4 : (w3.alloc X).grownBy w4 v.ownBlock) :
    (w4.cell? ⟨B0 + 1, 0, none⟩ = some v ∧ w4.frozen? ⟨B0 + 1, 0, none⟩ = false) ∧ LR l A c B0 w (ls ++ [i]) (w4.setCell ⟨B0 + 1, 0, none⟩ v4) ∧ KV n0 (B0 + 2) W (w4.setCell ⟨B0 + 1, 0, none⟩ v4) ∧ (w4.setCell ⟨B0 + 1, 0, none⟩ v4).heap[B0 + 2 + 3]? = W.heap[B0 + 2 + 3]? := by
  have hb : Below W.heap.size W (w3.alloc X) := hb3.alloc hb3.size _
  have hk : ∀ (k : Nat) (o : Obj), W.heap[k]? = some o → (k < B0 + 7 ∨ ∃ (cs : Array Value) (fz : Nat × Nat), o = Obj.cells cs 3 fz) → w4.heap[k]? = some o := fun k o h1 h2 => by
    have h3 := (hb.block k (lt_of_block h1)).trans h1
    refine (hg4.block k (lt_of_block h3) fun e => ?_).trans h3
    rcases hown.2 with ⟨h4, _⟩ | ⟨g, cap, cur, hv, hg, hh, _⟩
    · rw [h4] at e; cases e
    · rw [hv] at e
      injection e with e
      have e2 : k = g := e
      subst e2
      rcases h2 with h2 | ⟨cs, fz, rfl⟩
      · omega
      · rw [hh] at h1
        injection h1 with h1
        injection h1 with _ h1 _
        exact absurd h1 (by decide)
  have hO := hk _ _ ho (.inl (by omega))
  have hset : ∀ k : Nat, k ≠ B0 + 1 → (w4.setCell ⟨B0 + 1, 0, none⟩ v4).heap[k]? = w4.heap[k]? := fun k h => Below.heap_setCell _ _ _ _ h
  have hbel : Below B0 W w4 := (below_app (hb.mono (show B0 ≤ W.heap.size by omega)) (own_keep hown hb) hg4 (by omega) (by have := hb.size; omega))
  have h9 : W.heap[B0 + 2 + 3]? = w4.heap[B0 + 2 + 3]? := by
    have hlt : B0 + 2 + 3 < W.heap.size := by omega
    have h1 : W.heap[B0 + 2 + 3]? = some W.heap[B0 + 2 + 3] := Array.getElem?_eq_getElem hlt
    rw [h1]
    exact (hk _ _ h1 (.inl (by omega))).symm
  refine ⟨⟨cell_of_one hO, free_of_one hO⟩, ⟨?_, ⟨v4, one_setCell hO, ?_⟩, ?_⟩, ⟨?_, fun k o h1 h2 h3 => ?_⟩, ?_⟩
  · rw [hset _ (by omega)]
    exact hk _ _ hJ.t_ (.inl (by omega))
  · rw [List.length_append, List.map_append]
    have := ownsRow_setCell_other ho4 (a := ⟨B0 + 1, 0, none⟩) (fun he => by have := (ho4.lt _ he).1; simp at this <;> omega) v4
    rw [hmk] at this
    exact this
  · exact hJ.bel.trans (hbel.setCell (by simp) _)
  · exact (hbel.mono hn0).setCell (by simp; omega) _
  · rcases h2 with h2 | h2
    · rw [hset _ (by omega)]
      exact hk _ _ h3 (.inl (by omega))
    · obtain ⟨cs, fz, rfl⟩ := h2
      rw [hset _ (fun e => ?_)]
      · exact hk _ _ h3 (.inr ⟨cs, fz, rfl⟩)
      · subst e
        rw [ho] at h3
        injection h3 with h3
        injection h3 with _ h3 _
        exact absurd h3 (by decide)
  · rw [hset _ (by omega)]
    exact h9.symm
theorem app_two {t T : TypeId} (ht : Try.prog.underlying T = some (.slice t)) (hinfo : (Try.prog.info? t).map (fun i => (i.zero, i.size, i.bytes)) = some (some (.agg #[.int .i64 0, .int .i64 0]), 2, 16)) {ops : Array Oper} {rest : List Oper} {o : Oper} {a : Act} {w : World} {Q : Exit → Act → World → Prop} (hgd : o.guard = none) (s x : Operand)
    (ho : o.op = .call { callee := .builtin .append, args := #[s, x], argTypes := #[T, T] })
    (base : Nat) (v : Value) (n : Nat) (xs : List (Int × Int)) (hs : a.eval s = v) (hown : w.ownsRow base t 2 v n (flat2 xs))
    (ad : Addr) (m : Int × Int) (hx : a.eval x = .slice (some ad) 1 1) (hp : ∀ j u, (cells2 m)[j]? = some u → w.cell? (ad.add j) = some u) (hn : n ≤ 1000000) (hbase : base ≤ w.heap.size)
    (h : ∀ v' w', w'.ownsRow base t 2 v' (n + 1) (flat2 (xs ++ [m])) → w.grownBy w' v.ownBlock → wpList Try.prog ops Q rest (a.put o.dst v') w') : wpList Try.prog ops Q (o :: rest) a w :=
  wpList_plain hgd fun _ hK => wp_two ht hinfo s x ho base v n xs hs hown ad m hx hp hn hbase fun v' w' h1 h2 => hK _ _ (h v' w' h1 h2)
theorem step_two {t T : TypeId} (ht : Try.prog.underlying T = some (.slice t)) (hinfo : (Try.prog.info? t).map (fun i => (i.zero, i.size, i.bytes)) = some (some (.agg #[.int .i64 0, .int .i64 0]), 2, 16)) {ops : Array Oper} {o : Oper} {a : Act} {w : World} {K : Act → World → Prop} {Q : Exit → Act → World → Prop} {E : Prop} (hgd : o.guard = none) (s x : Operand)
    (ho : o.op = .call { callee := .builtin .append, args := #[s, x], argTypes := #[T, T] })
    (base : Nat) (v : Value) (n : Nat) (xs : List (Int × Int)) (hs : a.eval s = v) (hown : w.ownsRow base t 2 v n (flat2 xs))
    (ad : Addr) (m : Int × Int) (hx : a.eval x = .slice (some ad) 1 1) (hp : ∀ j u, (cells2 m)[j]? = some u → w.cell? (ad.add j) = some u) (hn : n ≤ 1000000) (hbase : base ≤ w.heap.size)
    (h : ∀ v' w', w'.ownsRow base t 2 v' (n + 1) (flat2 (xs ++ [m])) → w.grownBy w' v.ownBlock → K (a.put o.dst v') w') :
    if Region.wanted o (yielded ops a.tmps) = true then Oper.wp Try.prog o a w K Q else E := by
  rw [if_pos (by simp [Region.wanted, hgd])]
  exact wp_two ht hinfo s x ho base v n xs hs hown ad m hx hp hn hbase h
set_option maxRecDepth 100000 in
set_option maxHeartbeats 2000000 in
theorem ring2_any (l : List Nd) (A : Option Addr) (c n0 B0 : Nat) (w : World) (hn0 : n0 ≤ B0) (rs : List (Nat × Nat × Nat)) (i fr tt : Nat) (hlen : rs.length < 1000000) (W : World) (hsz : B0 + 2 + 5 ≤ W.heap.size) (hJ : LR l A c B0 w rs W) :
    Calls Try.prog 96 #[.int .i64 (i : Int), .int .i64 (fr : Int), .int .i64 (tt : Int), .pointer (some ⟨B0 + 1, 0, none⟩)] W fun e w' => e = .returned (.tuple #[]) ∧ LR l A c B0 w (rs ++ [(i, fr, tt)]) w' ∧ KV n0 (B0 + 2) W w' ∧ w'.heap[B0 + 2 + 3]? = W.heap[B0 + 2 + 3]? := by
  obtain ⟨v, ho, hown⟩ := hJ.o_
  have p1 := cell_of_one ho
  have z1 := free_of_one ho
  obtain ⟨A5, c5, rfl⟩ := own_slice hown
  have HNX := hid fun (v4 : Value) (w4 : World) (ho4 : w4.ownsRow (B0 + 7) 95 2 v4 (rs.length + 1) (flat2 (rs.map spOf ++ [((fr : Int), (tt : Int))]))) (hg4 : (W.alloc (.cells #[.int .i64 (fr : Int), .int .i64 (tt : Int)] 95)).grownBy w4 (Value.slice A5 rs.length c5).ownBlock) =>
    ring_next hn0 hsz hJ ho hown (show ((fr : Int), (tt : Int)) = spOf (i, fr, tt) from rfl) (Below.refl W.heap.size W) ho4 hg4
  have HOW := hid (own_keep hown ((Below.refl W.heap.size W).alloc (Nat.le_refl _) (.cells #[.int .i64 (fr : Int), .int .i64 (tt : Int)] 95)))
  obtain ⟨nr, hnr⟩ : ∃ nr, nr = rs.length := ⟨_, rfl⟩
  rw [← hnr] at HNX HOW hlen p1
  clear hJ ho hown hnr
  go_enter Try.func96, Try.ntmps96
  go_wp2_with (first | (at_builtin; refine app_two Try.underlying47 Try.infoSpan rfl (.tmp 7) (.tmp 11) rfl (B0 + 7) _ nr (rs.map spOf) rfl HOW.out ⟨W.heap.size, 0, none⟩ ((fr : Int), (tt : Int)) rfl (cell_news W (cells2 ((fr : Int), (tt : Int))) 95) (by omega) (by simp; omega) ?_; intro v4 w4 ho4 hg4; have hx4 := HNX.out v4 w4 ho4 hg4; have p9 := hx4.1.1; have z9 := hx4.1.2; have H4 := hid hx4.2; obtain ⟨A6, c6, rfl⟩ := own_slice ho4; clear ho4 hg4 hx4))
  go_end0
  exact ⟨rfl, H4.out.1, H4.out.2.1, H4.out.2.2⟩
set_option maxRecDepth 100000 in
theorem noLeaf_any (a : Value) (w : World) : Calls Try.prog 95 #[a] w fun e w' => e = .returned (.tuple #[]) ∧ w = w' := by
  go_enter Try.func95, Try.ntmps95
  go_wp2_with fail
  go_end0
  exact ⟨rfl, rfl⟩
theorem rings_told (l : List Nd) (A : Option Addr) (c n0 B0 : Nat) (w : World) (hn0 : n0 ≤ B0) :
    Told l A c n0 (B0 + 2) 95 #[] 96 #[.pointer (some ⟨B0 + 1, 0, none⟩)] (fun _ rs W => LR l A c B0 w rs W) where
  below := fun _ _ _ _ h hb => h.below hb
  read := fun _ _ _ v h _ => h.read v
  leaf := fun ls rs i W hJ hV hi _ hlen => (noLeaf_any _ W).mono fun e w' ⟨h1, h2⟩ => by subst h2; exact ⟨h1, hJ, KV.refl _ _ _, rfl⟩
  ring := fun ls rs i fr W hJ hV _ _ _ _ hr => ring2_any l A c n0 B0 w hn0 rs i fr ls.length hr W hV.size hJ
  lent := enters_of Try.func95 (by kernel_rfl) rfl
  rent := enters_of Try.func96 (by kernel_rfl) rfl
def spans (l : List Nd) : List (Int × Int) := (ringsOf l).map spOf
set_option maxRecDepth 100000 in
set_option maxHeartbeats 1000000 in
theorem rings_any (l : List Nd) (hl : l.length ≤ 1000000) (hH : HonOk l) (A : Option Addr) (c n0 : Nat) (w : World) (hn0 : n0 ≤ w.heap.size) (r : Nds w n0 A l) :
    Calls Try.prog 71 #[.agg #[.slice A l.length c]] w fun e w' => ∃ v, e = .returned v ∧ w'.ownsRow w.heap.size 95 2 v (spans l).length (flat2 (spans l)) ∧ Below w.heap.size w w' := by
  obtain ⟨W, hW⟩ : ∃ W, W = (w.alloc (.cells #[.slice A l.length c] 27)).alloc (.cells #[.slice none 0 0] 47) := ⟨_, rfl⟩
  have hb : Below w.heap.size w W := by rw [hW]; exact ((Below.refl _ _).alloc (Nat.le_refl _) _).alloc (by simp) _
  have hz : W.heap.size = w.heap.size + 2 := by rw [hW]; simp
  have T := rings_told l A c n0 w.heap.size w hn0
  rw [← hz] at T
  have h1 : W.heap[w.heap.size]? = some (.cells #[.slice A l.length c] 27 (0, 0)) := by
    rw [hW, Below.heap_alloc _ _ _ (by simp)]
    exact heap_alloc_new _ _
  have h2 : W.heap[w.heap.size + 1]? = some (.cells #[.slice none 0 0] 47 (0, 0)) := by
    rw [hW]
    have := heap_alloc_new (w.alloc (.cells #[.slice A l.length c] 27)) (.cells #[.slice none 0 0] 47)
    simpa using this
  have hJ : LR l A c w.heap.size w [] W := ⟨h1, ⟨_, h2, World.ownsRow_nil _ _ _ _⟩, hb⟩
  have ho := order_any l hl hH A c n0 _ _ _ _ W (by omega) (r.below (hb.mono hn0)) _ T hJ
  have p1 := cell_of_one h1
  have HO := hid ho; have HW := hid hW; have HB := hid hb
  clear ho T hJ h1 h2 hb hz r hH
  obtain ⟨N, hN⟩ : ∃ N, N = l.length := ⟨_, rfl⟩
  rw [← hN] at hl HO HW p1 ⊢
  clear hN
  go_enter Try.func71, Try.ntmps71
  go_wp2_with fail
  have hc := HO.out
  rw [HW.out] at hc
  refine hc.mono ?_
  rintro e w6 ⟨rfl, j6, _⟩
  obtain ⟨v, o1, o2⟩ := j6.o_
  have p2 := cell_of_one o1
  have HV := hid (own_base o2 (show w.heap.size ≤ w.heap.size + 7 by omega))
  have HB6 := hid j6.bel
  clear hc HO j6 o1 o2
  go_wp2_with fail
  go_ret
  refine ⟨_, rfl, ?_, HB6.out⟩
  unfold spans
  rw [List.length_map]
  exact HV.out
/-- A function that answers pairs and an error. -/
def RngPost (T : TypeId) (E : Int) (L : List (Int × Int)) (w : World) (e : Ending) (w' : World) : Prop := ∃ v, e = .returned (.tuple #[v, .int .i64 E]) ∧ w'.ownsRow w.heap.size T 2 v L.length (flat2 L) ∧ Below w.heap.size w w'
noncomputable def rngL (P : Int) (ss : List Sg) (l : List Nd) : List (Int × Int) := if chkE P ss l = 0 then spans l else []
theorem rngL_bad {P : Int} {ss : List Sg} {l : List Nd} (h : chkE P ss l ≠ 0) : rngL P ss l = [] := if_neg h
theorem rngL_ok {P : Int} {ss : List Sg} {l : List Nd} (h : chkE P ss l = 0) : rngL P ss l = spans l := if_pos h
set_option maxRecDepth 100000 in
set_option maxHeartbeats 4000000 in
theorem ringE_any (P : Int) (ss : List Sg) (l : List Nd) (hN : ss.length ≤ 1000000) (hv : ∀ s ∈ ss, s.vals.length ≤ 1000000 ∧ s.vals.length ≤ s.vc) (hn : l.length ≤ 1000000) (A A2 : Option Addr) (c c2 : Nat) (w : World) (rs : Sgs w w.heap.size A ss) (rn : Nds w w.heap.size A2 l) :
    Calls Try.prog 32 #[.agg #[.int .i64 P, .slice A ss.length c], .agg #[.slice A2 l.length c2]] w (RngPost 95 (chkE P ss l) (rngL P ss l) w) := by
  obtain ⟨w1, hw1⟩ : ∃ w1, w1 = (w.alloc (.cells #[.int .i64 P, .slice A ss.length c] 24)).alloc (.cells #[.slice A2 l.length c2] 27) := ⟨_, rfl⟩
  have hb1 : Below w.heap.size w w1 := by rw [hw1]; exact ((Below.refl _ _).alloc (Nat.le_refl _) _).alloc (by simp) _
  have hz1 : w1.heap.size = w.heap.size + 2 := by rw [hw1]; simp
  have c0 : w1.cell? ⟨w.heap.size, 0, none⟩ = some (.int .i64 P) := by rw [hw1]; exact cell_old (cell_here rfl rfl)
  have c1 : w1.cell? ⟨w.heap.size, 1, none⟩ = some (.slice A ss.length c) := by rw [hw1]; exact cell_old (cell_here rfl rfl)
  have c3 : w1.cell? ⟨w.heap.size + 1, 0, none⟩ = some (.slice A2 l.length c2) := by rw [hw1]; exact cell_here (by simp) rfl
  have HCK := hid (check_any P ss l hN hv hn A A2 c c2 w1 ((rs.below hb1).more (by omega)) ((rn.below hb1).more (by omega)))
  have HLI := hid fun (h : chkE P ss l = 0) (W : World) (hb : Below w.heap.size w W) => rings_any l hn (good_hon h) A2 c2 W.heap.size W (Nat.le_refl _) ((rn.below hb).more hb.size)
  have m1 := rngL_bad (P := P) (ss := ss) (l := l); have m2 := rngL_ok (P := P) (ss := ss) (l := l)
  generalize rngL P ss l = L at m1 m2 ⊢
  generalize chkE P ss l = CE at HCK HLI m1 m2
  have M1 := hid m1; have M2 := hid m2
  clear m1 m2
  generalize ss.length = N at HCK c1 hw1 ⊢
  generalize l.length = n at HCK HLI c3 hw1 ⊢
  have HW1 := hid hw1; have HB1 := hid hb1
  have hzz : w.heap.size + 1 < w1.heap.size := by omega
  have HC3 := hid fun (wr : World) (h : Below w1.heap.size w1 wr) => (h.cell (p := ⟨w.heap.size + 1, 0, none⟩) hzz).trans c3
  have HW : Hid (∀ wr, Below w1.heap.size w1 wr → Below w.heap.size w wr) := fun wr h => hb1.trans (h.mono (by omega))
  clear hw1 hb1 hz1 rs rn hv hN
  go_enter Try.func32, Try.ntmps32
  go_upto_region 1 with (fail)
  rw [← HW1.out]
  clear HW1
  obtain ⟨B0, hB0⟩ : ∃ B0, B0 = w.heap.size := ⟨_, rfl⟩
  obtain ⟨B1, hB1⟩ : ∃ B1, B1 = B0 + 1 := ⟨_, rfl⟩
  rw [← hB0, ← hB1] at c3 HC3 hzz
  rw [← hB0] at c0 c1 ⊢
  rw [← hB1]
  clear hB0 hB1
  by_cases hCE : CE = 0
  · have f0 : (CE != 0) = false := by simp [hCE]
    have x2 := M2.out hCE
    replace HLI := hid (HLI.out hCE)
    have X2 := hid x2
    clear M1 M2 x2
    subst hCE
    go_wp2_with (first | (go_at_call 19; refine HCK.out.mono ?_; rintro e w2 ⟨rfl, hb2⟩; have p2 := HC3.out w2 hb2; have HC2 := hid (HLI.out w2 (HW.out _ hb2)); have HB2 := hid hb2; clear hb2 HCK c0 c1 c3) | (go_at_call 71; refine HC2.out.mono ?_; rintro e w5 ⟨v5, rfl, ho5, hb5⟩; have HO5 := hid (own_base ho5 (HW.out _ HB2.out).size); have HB5 := hid (HW.out _ (HB2.out.trans (hb5.mono HB2.out.size))); clear ho5 hb5))
    go_ret2
    exact ⟨_, rfl, by rw [X2.out]; exact HO5.out, HB5.out⟩
  · have f0 : (CE != 0) = true := by simp [hCE]
    have x2 := M1.out hCE
    have X2 := hid x2
    clear x2
    clear M1 M2 hCE
    go_wp2_with (first | (go_at_call 19; refine HCK.out.mono ?_; rintro e w2 ⟨rfl, hb2⟩; have HB2 := hid hb2; clear hb2 HCK c0 c1 c3))
    go_ret2
    exact ⟨.slice none 0 0, rfl, by rw [X2.out]; exact World.ownsRow_nil _ _ _ _, HW.out _ HB2.out⟩
end Go.Proofs.Ytddbnggficlcfaa

/- Plain law: a ring stands only at the head of a group. -/
namespace Go.Proofs.Ytddbnggficlcfaa
open Go.RowKit Go.Shelf
theorem rgsL_nil {rg : Nat → Nat → List (Nat × Nat × Nat)} {lv : Nat → Nat} : ∀ (ks : List Nat) (r : Nat), (∀ k ∈ ks, ∀ r, rg k r = []) → rgsL rg lv ks r = []
  | [], _, _ => rfl
  | k :: ks, r, h => by
    rw [rgsL, h k (by simp) r, rgsL_nil ks _ fun x hx => h x (by simp [hx])]
    rfl
theorem rgs_none {l : List Nd} (hw : WfN l) (hR : ∀ i, i < l.length → kd l i = 5 → dep l i ≤ 0) : ∀ (f i : Nat) (r : Nat), i < l.length → 0 < dep l i → rgs l f (i : Int) r = []
  | 0, _, _, _, _ => rfl
  | f + 1, i, r, hi, hd => by
    unfold rgs
    split
    · rfl
    · rw [rgsL_nil (ordK l (i : Int)) r fun k hk r => by
        obtain ⟨_, h2, h3, _⟩ := (kid_iff hw hi).1 (ordK_mem hk)
        exact rgs_none hw hR f k r h2 (by omega)]
      rw [if_neg fun h => by have := hR i hi h.2; omega]
      rfl
theorem rgs_top {l : List Nd} (hw : WfN l) (hd : DepOk l) (hR : ∀ i, i < l.length → kd l i = 5 → dep l i ≤ 0) (f i : Nat) (r : Nat) (hf : 0 < f) (hi : i < l.length) : rgs l f (i : Int) r = if kd l i = 5 then [(i, r, r + (lvs l f (i : Int)).length)] else [] := by
  obtain ⟨g, rfl⟩ : ∃ g, f = g + 1 := ⟨f - 1, by omega⟩
  unfold rgs
  split
  · rename_i h
    rw [if_neg]
    intro h5
    have := h.2
    rw [show (i : Int).toNat = i from rfl, h5] at this
    cases this
  · rw [rgsL_nil (ordK l (i : Int)) r fun k hk r => by
      obtain ⟨_, h2, h3, _⟩ := (kid_iff hw hi).1 (ordK_mem hk)
      have := (hd i hi).1
      exact rgs_none hw hR g k r h2 (by omega)]
    rw [List.nil_append, show (i : Int).toNat = i from rfl]
    by_cases h5 : kd l i = 5
    · rw [if_pos ⟨by omega, h5⟩, if_pos h5]
    · rw [if_neg (fun h => h5 h.2), if_neg h5]
theorem spans_rn (l : List Nd) : spans l = (rn l l.length (kidsOf l (-1)) 0 (kidsOf l (-1)).length).map spOf := by
  unfold spans ringsOf
  rw [rgs_no (fun h => by have := h.1; omega)]
  rw [if_neg (fun h => by have := h.1; omega), List.append_nil]
  have : ordK l (-1) = kidsOf l (-1) := if_neg (fun h => by have := h.1; omega)
  rw [this]
end Go.Proofs.Ytddbnggficlcfaa
