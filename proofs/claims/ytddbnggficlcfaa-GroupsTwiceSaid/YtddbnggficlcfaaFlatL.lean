/- PLAIN LAW: Flat: the leaves of a text, one after the other. -/
import Derived.Test.YtddbnggficlcfaaLinesLaw
import Derived.Test.YtddbnggficlcfaaTextL
import Derived.Test.YtddbnggficlcfaaLine2
import Derived.Deep.Slices
namespace Go.Proofs.Ytddbnggficlcfaa
/-- A leaf at another depth. -/
def ndD (l : List Nd) (d : Int) (i : Nat) : Nd := { nd l i with depth := d }
def setD (d : Int) (n : Nd) : Nd := { n with depth := d }
def ringN : Nd := ⟨5, 0, 0, 0, false, 0, 0, 0⟩
/-- What a ring of leaves becomes. -/
def ringOut (r : List Nd) : List Nd := if r.length ≤ 6 then ringN :: r.map (setD 1) else r
/-- The program's way: what was put out, and up to which leaf. -/
def fpF (LV : List Nd) (st : List Nd × Nat) (r : Nat × Nat × Nat) : List Nd × Nat := (st.1 ++ (LV.take r.2.1).drop st.2 ++ ringOut ((LV.take r.2.2).drop r.2.1), r.2.2)
def fpL (LV : List Nd) (rs : List (Nat × Nat × Nat)) : List Nd × Nat := rs.foldl (fpF LV) ([], 0)
theorem fpL_app (LV : List Nd) (rs : List (Nat × Nat × Nat)) (r : Nat × Nat × Nat) : fpL LV (rs ++ [r]) = fpF LV (fpL LV rs) r := by unfold fpL; rw [List.foldl_append]; rfl
def lvN (l : List Nd) : List Nd := (leaves l).map (ndD l 0)
def fltL (l : List Nd) : List Nd := (fpL (lvN l) (ringsOf l)).1 ++ (lvN l).drop (fpL (lvN l) (ringsOf l)).2
/-- The document's way: group by group. -/
def fltG (l : List Nd) (g : Nat) : List Nd := if kd l g = 5 ∧ (lvs l l.length (g : Int)).length ≤ 6 then ringN :: (lvs l l.length (g : Int)).map (ndD l 1) else (lvs l l.length (g : Int)).map (ndD l 0)
def fltK (l : List Nd) (k : Nat) : List Nd := ((kidsOf l (-1)).take k).flatMap (fltG l)
theorem fltK_s {l : List Nd} {k : Nat} (h : k < (kidsOf l (-1)).length) : fltK l (k + 1) = fltK l k ++ fltG l (kidsOf l (-1))[k] := by
  unfold fltK
  rw [List.take_add_one, List.getElem?_eq_getElem h, Option.toList_some, List.flatMap_append]
  simp
theorem leaves_dn (l : List Nd) : leaves l = dn l l.length (kidsOf l (-1)) (kidsOf l (-1)).length := by
  have h1 := lvs_no (l := l) (f := l.length) (node := -1) (fun h => by have := h.1; omega)
  have h2 : ordK l (-1) = kidsOf l (-1) := if_neg (fun h => by have := h.1; omega)
  rw [h2] at h1
  exact h1
theorem dn_take {l : List Nd} {f : Nat} {ks : List Nat} {j : Nat} : (dn l f ks ks.length).take (dn l f ks j).length = dn l f ks j := by
  have e : dn l f ks ks.length = dn l f ks j ++ (ks.drop j).flatMap fun k : Nat => lvs l f (k : Int) := by
    unfold dn
    rw [List.take_length, ← List.flatMap_append, List.take_append_drop]
  rw [e, List.take_left]
theorem lvN_take {l : List Nd} {j : Nat} : (lvN l).take (dn l l.length (kidsOf l (-1)) j).length = (dn l l.length (kidsOf l (-1)) j).map (ndD l 0) := by
  unfold lvN
  rw [leaves_dn, ← List.map_take, dn_take]
theorem setD_map (l : List Nd) (d : Int) (xs : List Nat) : (xs.map (ndD l 0)).map (setD d) = xs.map (ndD l d) := by
  rw [List.map_map]; rfl
theorem flt_inv {l : List Nd} (hw : WfN l) (hd : DepOk l) (hR : ∀ i, i < l.length → kd l i = 5 → dep l i ≤ 0) : ∀ j, j ≤ (kidsOf l (-1)).length →
    (fpL (lvN l) (rn l l.length (kidsOf l (-1)) 0 j)).1 ++ ((lvN l).take (dn l l.length (kidsOf l (-1)) j).length).drop (fpL (lvN l) (rn l l.length (kidsOf l (-1)) 0 j)).2 = fltK l j ∧ (fpL (lvN l) (rn l l.length (kidsOf l (-1)) 0 j)).2 ≤ (dn l l.length (kidsOf l (-1)) j).length
  | 0, _ => by simp [fltK, rn, rgsL, fpL, dn]
  | j + 1, hj => by
    obtain ⟨ih1, ih2⟩ := flt_inv hw hd hR j (by omega)
    have hjl : j < (kidsOf l (-1)).length := by omega
    have hx : (kidsOf l (-1))[j] < l.length := by
      have := (kidsOf_mem (l := l) (node := -1) (by omega) (by omega) (List.getElem_mem hjl)).2
      omega
    have hrs := rn_s (l := l) (f := l.length) (r := 0) hjl
    have hds := dn_s (l := l) (f := l.length) hjl
    rw [Nat.zero_add, rgs_top hw hd hR l.length _ _ (by omega) hx] at hrs
    have ht := lvN_take (l := l) (j := j)
    have ht1 := lvN_take (l := l) (j := j + 1)
    rw [fltK_s hjl, ← ih1]
    rw [hds] at ht1 ⊢
    generalize dn l l.length (kidsOf l (-1)) j = D at *
    generalize (kidsOf l (-1))[j] = g at *
    rw [List.map_append, List.length_append] at ht1
    rw [List.length_append]
    by_cases h5 : kd l g = 5
    · rw [if_pos h5] at hrs
      rw [hrs, fpL_app]
      generalize fpL (lvN l) (rn l l.length (kidsOf l (-1)) 0 j) = st at *
      obtain ⟨o, a⟩ := st
      simp only [] at ih1 ih2 ⊢
      unfold fpF
      simp only []
      refine ⟨?_, by omega⟩
      rw [ht1, ht]
      have e1 : (D.map (ndD l 0) ++ (lvs l l.length (g : Int)).map (ndD l 0)).drop D.length = (lvs l l.length (g : Int)).map (ndD l 0) := by
        rw [List.drop_append]
        simp
      have e2 : (D.map (ndD l 0) ++ (lvs l l.length (g : Int)).map (ndD l 0)).drop (D.length + (lvs l l.length (g : Int)).length) = [] := List.drop_eq_nil_of_le (by simp)
      rw [e1, e2, List.append_nil]
      congr 1
      unfold ringOut fltG
      rw [List.length_map]
      by_cases h6 : (lvs l l.length (g : Int)).length ≤ 6
      · rw [if_pos h6, if_pos ⟨h5, h6⟩, setD_map]
      · rw [if_neg h6, if_neg (fun h => h6 h.2)]
    · rw [if_neg h5, List.append_nil] at hrs
      rw [hrs]
      generalize fpL (lvN l) (rn l l.length (kidsOf l (-1)) 0 j) = st at *
      obtain ⟨o, a⟩ := st
      simp only [] at ih1 ih2 ⊢
      refine ⟨?_, by omega⟩
      rw [ht1, ht, List.drop_append_of_le_length (by rw [List.length_map]; exact ih2), List.append_assoc]
      unfold fltG
      rw [if_neg (fun h => h5 h.1)]
theorem ringsOf_rn (l : List Nd) : ringsOf l = rn l l.length (kidsOf l (-1)) 0 (kidsOf l (-1)).length := by
  unfold ringsOf
  rw [rgs_no (fun h => by have := h.1; omega)]
  rw [if_neg (fun h => by have := h.1; omega), List.append_nil]
  have : ordK l (-1) = kidsOf l (-1) := if_neg (fun h => by have := h.1; omega)
  rw [this]
theorem fltL_eq {l : List Nd} (hw : WfN l) (hd : DepOk l) (hR : ∀ i, i < l.length → kd l i = 5 → dep l i ≤ 0) : fltL l = fltK l (kidsOf l (-1)).length := by
  have h := (flt_inv hw hd hR _ (Nat.le_refl _)).1
  have e := lvN_take (l := l) (j := (kidsOf l (-1)).length)
  have e2 : lvN l = (dn l l.length (kidsOf l (-1)) (kidsOf l (-1)).length).map (ndD l 0) := by unfold lvN; rw [leaves_dn]
  rw [e, ← e2, ← ringsOf_rn] at h
  exact h
end Go.Proofs.Ytddbnggficlcfaa

/- groups.Flat$1, and the leaves that Flat collects. -/
namespace Go.Proofs.Ytddbnggficlcfaa
open Go.RowKit Go.Shelf
theorem ndD_at {l : List Nd} {d : Int} {i : Nat} (h : i < l.length) : ndD l d i = { l[i] with depth := d } := by unfold ndD; rw [nd_at h]
/-- What Flat keeps while the leaves are collected: the text's box, the cell of the leaves, the leaves. -/
structure LF (l : List Nd) (A : Option Addr) (c tb cb : Nat) (w : World) (ls : List Nat) (W : World) : Prop where
  t_ : W.heap[tb]? = some (.cells #[.slice A l.length c] 27 (0, 0))
  o_ : ∃ v, W.heap[cb]? = some (.cells #[v] 25 (0, 0)) ∧ W.ownsRow (cb + 6) 78 8 v ls.length (flatN (ls.map (ndD l 0)))
  bel : Below cb w W
theorem LF.below {l : List Nd} {A : Option Addr} {c tb cb : Nat} {w : World} {ls : List Nat} {W W' : World} (h : LF l A c tb cb w ls W) (hb : Below W.heap.size W W') : LF l A c tb cb w ls W' := by
  obtain ⟨v, h1, h2⟩ := h.o_
  exact ⟨(hb.block _ (lt_of_block h.t_)).trans h.t_, ⟨v, (hb.block _ (lt_of_block h1)).trans h1, own_keep h2 hb⟩, h.bel.trans (hb.mono (by have := lt_of_block h1; omega))⟩
theorem LF.read {l : List Nd} {A : Option Addr} {c tb cb : Nat} {w : World} {ls : List Nat} {W : World} (htb : tb < cb) (h : LF l A c tb cb w ls W) (v : Value) : LF l A c tb cb w ls (W.setCell ⟨cb + 1 + 3, 0, none⟩ v) := by
  obtain ⟨u, h1, h2⟩ := h.o_
  exact ⟨(Below.heap_setCell _ _ _ _ (by simp <;> omega)).trans h.t_, ⟨u, (Below.heap_setCell _ _ _ _ (by simp <;> omega)).trans h1, ownsRow_setCell_other h2 (a := ⟨cb + 1 + 3, 0, none⟩) (fun he => by have := (h2.lt _ he).1; simp at this; omega) v⟩, h.bel.setCell (by simp; omega) _⟩
theorem flat_next {l : List Nd} {A : Option Addr} {c n0 tb cb i : Nat} {w W w3 w4 : World} {ls : List Nat} {v v4 : Value} {ys : List Value} (hn0 : n0 ≤ cb) (htb : tb < cb) (hsz : cb + 1 + 5 ≤ W.heap.size) (hJ : LF l A c tb cb w ls W) (ho : W.heap[cb]? = some (.cells #[v] 25 (0, 0)))
    (hown : W.ownsRow (cb + 6) 78 8 v ls.length (flatN (ls.map (ndD l 0)))) (hys : ys = (ndD l 0 i).cells) (hb : Below W.heap.size W w3) (ho4 : w4.ownsRow (cb + 6) 78 8 v4 (ls.length + 1) (flatN (ls.map (ndD l 0)) ++ ys)) (hg4 : w3.grownBy w4 v.ownBlock) :
    (w4.cell? ⟨cb, 0, none⟩ = some v ∧ w4.frozen? ⟨cb, 0, none⟩ = false) ∧ LF l A c tb cb w (ls ++ [i]) (w4.setCell ⟨cb, 0, none⟩ v4) ∧ KV n0 (cb + 1) W (w4.setCell ⟨cb, 0, none⟩ v4) ∧ (w4.setCell ⟨cb, 0, none⟩ v4).heap[cb + 1 + 3]? = W.heap[cb + 1 + 3]? := by
  have hk : ∀ (k : Nat) (o : Obj), W.heap[k]? = some o → (k < cb + 6 ∨ ∃ (cs : Array Value) (fz : Nat × Nat), o = Obj.cells cs 3 fz) → w4.heap[k]? = some o := fun k o h1 h2 => by
    have h3 := (hb.block k (lt_of_block h1)).trans h1
    refine (hg4.block k (lt_of_block h3) fun e => ?_).trans h3
    rcases hown.2 with ⟨h4, _⟩ | ⟨g, cap, cur, hv, hg, hh, _⟩
    · rw [h4] at e; cases e
    · rw [hv] at e
      injection e with e
      have e2 : k = g := e
      subst e2
      rcases h2 with h2 | ⟨cs, fz, rfl⟩
      · omega
      · rw [hh] at h1
        injection h1 with h1
        injection h1 with _ h1 _
        exact absurd h1 (by decide)
  have hO := hk _ _ ho (.inl (by omega))
  have hset : ∀ k : Nat, k ≠ cb → (w4.setCell ⟨cb, 0, none⟩ v4).heap[k]? = w4.heap[k]? := fun k h => Below.heap_setCell _ _ _ _ h
  have hbel : Below cb W w4 := (below_app (hb.mono (show cb ≤ W.heap.size by omega)) (own_keep hown hb) hg4 (by omega) (by have := hb.size; omega))
  have h9 : W.heap[cb + 1 + 3]? = w4.heap[cb + 1 + 3]? := by
    have hlt : cb + 1 + 3 < W.heap.size := by omega
    have h1 : W.heap[cb + 1 + 3]? = some W.heap[cb + 1 + 3] := Array.getElem?_eq_getElem hlt
    rw [h1]
    exact (hk _ _ h1 (.inl (by omega))).symm
  refine ⟨⟨cell_of_one hO, free_of_one hO⟩, ⟨?_, ⟨v4, one_setCell hO, ?_⟩, ?_⟩, ⟨?_, fun k o h1 h2 h3 => ?_⟩, ?_⟩
  · rw [hset _ (by omega)]
    exact hk _ _ hJ.t_ (.inl (by omega))
  · rw [List.length_append, List.map_append, flatN_app]
    have := ownsRow_setCell_other ho4 (a := ⟨cb, 0, none⟩) (fun he => by have := (ho4.lt _ he).1; simp at this <;> omega) v4
    rw [hys, ← flatN_sing] at this
    exact this
  · exact hJ.bel.trans (hbel.setCell (by simp) _)
  · exact (hbel.mono hn0).setCell (by simp; omega) _
  · rcases h2 with h2 | h2
    · rw [hset _ (by omega)]
      exact hk _ _ h3 (.inl (by omega))
    · obtain ⟨cs, fz, rfl⟩ := h2
      rw [hset _ (fun e => ?_)]
      · exact hk _ _ h3 (.inr ⟨cs, fz, rfl⟩)
      · subst e
        rw [ho] at h3
        injection h3 with h3
        injection h3 with _ h3 _
        exact absurd h3 (by decide)
  · rw [hset _ (by omega)]
    exact h9.symm
set_option maxRecDepth 100000 in
set_option maxHeartbeats 2000000 in
theorem flat1_any (l : List Nd) (A : Option Addr) (c n0 tb cb : Nat) (rf : Nat) (rc : Array Value) (w : World) (hn0 : n0 ≤ cb) (htb : tb < cb) (ls : List Nat) (i : Nat) (hi : i < l.length) (hlen : ls.length < 1000000) (W : World) (hJ : LF l A c tb cb w ls W) (hV : VF l A c n0 (cb + 1) 80 #[.pointer (some ⟨tb, 0, none⟩), .pointer (some ⟨cb, 0, none⟩)] rf rc W) :
    Calls Try.prog 80 #[.int .i64 (i : Int), .pointer (some ⟨tb, 0, none⟩), .pointer (some ⟨cb, 0, none⟩)] W fun e w' => e = .returned (.tuple #[]) ∧ LF l A c tb cb w (ls ++ [i]) w' ∧ KV n0 (cb + 1) W w' ∧ w'.heap[cb + 1 + 3]? = W.heap[cb + 1 + 3]? := by
  obtain ⟨v, ho, hown⟩ := hJ.o_
  have p1 := cell_of_one ho
  have z1 := free_of_one ho
  have p2 := cell_of_one hJ.t_
  obtain ⟨b, o, rfl, hbB, hc⟩ := hV.nds.at (by omega)
  have hnd := hc i hi
  have k1 := hnd.kind; have k2 := hnd.depth; have k3 := hnd.sign; have k4 := hnd.turn; have k5 := hnd.mir; have k6 := hnd.state; have k7 := hnd.mn; have k8 := hnd.mx
  have hmk := ndD_at (d := 0) hi
  generalize l[i] = nd at k1 k2 k3 k4 k5 k6 k7 k8 hmk
  obtain ⟨kk, dp, sg, tn, mi, st, mn, mx⟩ := nd
  simp only [] at k1 k2 k3 k4 k5 k6 k7 k8 hmk
  obtain ⟨A5, c5, rfl⟩ := own_slice hown
  have hsz := hV.size
  obtain ⟨N, hN⟩ : ∃ N, N = l.length := ⟨_, rfl⟩
  rw [← hN] at p2 hi
  have q0 : (i : Int) < (N : Int) := by omega
  have hlt1 : cb < W.heap.size := lt_of_block ho
  have HNX := hid fun (w3 : World) (hb3 : Below W.heap.size W w3) (v4 : Value) (w4 : World) (ho4 : w4.ownsRow (cb + 6) 78 8 v4 (ls.length + 1) (flatN (ls.map (ndD l 0)) ++ [.int .i64 kk, .int .i64 0, .int .i64 sg, .int .i64 tn, .bool mi, .int .i64 st, .int .i64 mn, .int .i64 mx])) (hg4 : w3.grownBy w4 (Value.slice A5 ls.length c5).ownBlock) =>
    flat_next hn0 htb hsz hJ ho hown (by rw [hmk]; rfl) hb3 ho4 hg4
  have HOW := hid fun (X Y : Obj) => own_keep hown (((Below.refl W.heap.size W).alloc (Nat.le_refl _) X).alloc (by simp) Y)
  have HBA := hid fun (X Y : Obj) => ((Below.refl W.heap.size W).alloc (Nat.le_refl _) X).alloc (by simp) Y
  have HN := hid hN; have HSZ := hid (show cb + 6 ≤ W.heap.size by omega)
  clear hmk hnd hc hN hJ hV ho hown
  go_enter Try.func80, Try.ntmps80
  go_wp2_with (first | (at_builtin; refine app_elem rfl (.tmp 11) (.tmp 13) Try.underlying25 Try.infoNode rfl (by decide) (by decide) rfl (cb + 6) _ _ (flatN (ls.map (ndD l 0))) rfl (HOW.out _ _) ⟨W.heap.size + 1, 0, none⟩ [.int .i64 kk, .int .i64 0, .int .i64 sg, .int .i64 tn, .bool mi, .int .i64 st, .int .i64 mn, .int .i64 mx] rfl rfl (cell_news_at _ _ _ (by simp)) (fun u hu => flatN_one (l := [⟨kk, 0, sg, tn, mi, st, mn, mx⟩]) (by rw [flatN_sing]; exact hu)) (by omega) (by have := HSZ.out; simp; omega) ?_; intro v4 w4 ho4 hg4; have hx4 := HNX.out _ (HBA.out _ _) v4 w4 ho4 hg4; have p9 := hx4.1.1; have z9 := hx4.1.2; have H4 := hid hx4.2; obtain ⟨A6, c6, rfl⟩ := own_slice ho4; clear ho4 hg4 hx4))
  go_end0
  exact ⟨rfl, H4.out.1, H4.out.2.1, H4.out.2.2⟩
theorem flat_told (l : List Nd) (A : Option Addr) (c n0 tb cb : Nat) (w : World) (hn0 : n0 ≤ cb) (htb : tb < cb) :
    Told l A c n0 (cb + 1) 80 #[.pointer (some ⟨tb, 0, none⟩), .pointer (some ⟨cb, 0, none⟩)] 81 #[] (fun ls _ W => LF l A c tb cb w ls W) where
  below := fun _ _ _ _ h hb => h.below hb
  read := fun _ _ _ v h _ => h.read htb v
  leaf := fun ls rs i W hJ hV hi _ hlen => flat1_any l A c n0 tb cb _ _ w hn0 htb ls i hi hlen W hJ hV
  ring := fun ls rs i fr W hJ hV _ _ _ _ _ => (noRing_any _ _ _ W).mono fun e w' ⟨h1, h2⟩ => by subst h2; exact ⟨h1, hJ, KV.refl _ _ _, rfl⟩
  lent := enters_of Try.func80 (by kernel_rfl) rfl
  rent := enters_of Try.func81 (by kernel_rfl) rfl
/-- The call of order in Flat: the leaves lie in their cell. -/
theorem flatOrder_any (l : List Nd) (hl : l.length ≤ 1000000) (hH : HonOk l) (A : Option Addr) (c n0 tb : Nat) (w : World) (hn0 : n0 ≤ w.heap.size) (r : Nds w n0 A l) (ht : w.heap[tb]? = some (.cells #[.slice A l.length c] 27 (0, 0))) :
    Calls Try.prog 79 #[.slice A l.length c, .func (.func 80) #[] #[.pointer (some ⟨tb, 0, none⟩), .pointer (some ⟨w.heap.size, 0, none⟩)], .func (.func 81) #[] #[]] (w.alloc (.cells #[.slice none 0 0] 25)) fun e w' => e = .returned (.tuple #[]) ∧ ∃ (A' : Option Addr) (c' : Nat), w'.cell? ⟨w.heap.size, 0, none⟩ = some (.slice A' (lvN l).length c') ∧ w.heap.size < w'.heap.size ∧ Nds w' w'.heap.size A' (lvN l) ∧ (lvN l).length ≤ c' ∧ Below w.heap.size w w' := by
  obtain ⟨W, hW⟩ : ∃ W, W = w.alloc (.cells #[.slice none 0 0] 25) := ⟨_, rfl⟩
  have hb : Below w.heap.size w W := by rw [hW]; exact (Below.refl _ _).alloc (Nat.le_refl _) _
  have hz : W.heap.size = w.heap.size + 1 := by rw [hW]; simp
  have htb := lt_of_block ht
  have T := flat_told l A c n0 tb w.heap.size w hn0 htb
  rw [← hz] at T
  have hJ : LF l A c tb w.heap.size w [] W := ⟨(hb.block _ htb).trans ht, ⟨_, by rw [hW]; exact heap_alloc_new _ _, World.ownsRow_nil _ _ _ _⟩, hb⟩
  have ho := order_any l hl hH A c n0 _ _ _ _ W (by omega) (r.below (hb.mono hn0)) _ T hJ
  rw [← hW]
  refine ho.mono ?_
  rintro e w' ⟨rfl, j6, _⟩
  obtain ⟨v, o1, o2⟩ := j6.o_
  have e1 : (lvN l).length = (leaves l).length := by unfold lvN; rw [List.length_map]
  obtain ⟨A', c', rfl⟩ := own_slice o2
  refine ⟨rfl, A', c', by rw [e1]; exact cell_of_one o1, lt_of_block o1, ?_, by rw [e1]; exact own_cap' o2, j6.bel⟩
  have := Reads.of_own o2
  unfold Nds
  rw [e1]
  exact this
end Go.Proofs.Ytddbnggficlcfaa

/- PLAIN LAW: the rings that Flat meets stand one behind the other. -/
namespace Go.Proofs.Ytddbnggficlcfaa
open Go.RowKit
def RngOk : Nat → List (Nat × Nat × Nat) → Nat → Prop
  | a, [], n => a ≤ n
  | a, r :: rs, n => a ≤ r.2.1 ∧ r.2.1 ≤ r.2.2 ∧ RngOk r.2.2 rs n
theorem RngOk.le : ∀ {rs : List (Nat × Nat × Nat)} {a n : Nat}, RngOk a rs n → a ≤ n
  | [], _, _, h => h
  | _ :: rs, _, _, h => by have := RngOk.le h.2.2; have := h.1; have := h.2.1; omega
theorem RngOk.snoc : ∀ {rs : List (Nat × Nat × Nat)} {a m n i f t : Nat}, RngOk a rs m → m ≤ f → f ≤ t → t ≤ n → RngOk a (rs ++ [(i, f, t)]) n
  | [], a, m, n, i, f, t, h, h1, h2, h3 => ⟨Nat.le_trans h h1, h2, h3⟩
  | _ :: rs, _, _, _, _, _, _, h, h1, h2, h3 => ⟨h.1, h.2.1, RngOk.snoc h.2.2 h1 h2 h3⟩
theorem RngOk.more : ∀ {rs : List (Nat × Nat × Nat)} {a m n : Nat}, RngOk a rs m → m ≤ n → RngOk a rs n
  | [], _, _, _, h, h1 => Nat.le_trans h h1
  | _ :: rs, _, _, _, h, h1 => ⟨h.1, h.2.1, RngOk.more h.2.2 h1⟩
theorem RngOk.get {LV : List Nd} : ∀ {rs : List (Nat × Nat × Nat)} {n : Nat} {st : List Nd × Nat}, RngOk st.2 rs n → n ≤ LV.length → ∀ k (hk : k ≤ rs.length),
    ((rs.take k).foldl (fpF LV) st).2 ≤ n ∧ ((rs.take k).foldl (fpF LV) st).1.length ≤ st.1.length + (((rs.take k).foldl (fpF LV) st).2 - st.2) + k ∧ st.2 ≤ ((rs.take k).foldl (fpF LV) st).2 ∧ ∀ (h : k < rs.length), ((rs.take k).foldl (fpF LV) st).2 ≤ rs[k].2.1 ∧ rs[k].2.1 ≤ rs[k].2.2 ∧ rs[k].2.2 ≤ n
  | [], n, st, h, _, k, hk => by
    obtain rfl : k = 0 := by simpa using hk
    exact ⟨h, by simp, Nat.le_refl _, fun h => by simp at h⟩
  | r :: rs, n, st, h, hn, 0, hk => ⟨RngOk.le h, by simp, Nat.le_refl _, fun _ => ⟨h.1, h.2.1, RngOk.le h.2.2⟩⟩
  | r :: rs, n, st, h, hn, k + 1, hk => by
    have hl := RngOk.le h.2.2
    have ih := RngOk.get (LV := LV) (rs := rs) (n := n) (st := fpF LV st r) h.2.2 hn k (by simpa using hk)
    rw [List.take_succ_cons, List.foldl_cons]
    have e2 : (fpF LV st r).2 = r.2.2 := rfl
    have e1 : (fpF LV st r).1.length ≤ st.1.length + (r.2.2 - st.2) + 1 := by
      show (st.1 ++ (LV.take r.2.1).drop st.2 ++ ringOut ((LV.take r.2.2).drop r.2.1)).length ≤ _
      have h1 := h.1; have h2 := h.2.1
      have hr : (ringOut ((LV.take r.2.2).drop r.2.1)).length ≤ r.2.2 - r.2.1 + 1 := by
        unfold ringOut
        have hq : ((LV.take r.2.2).drop r.2.1).length = r.2.2 - r.2.1 := by simp; omega
        split
        · rw [List.length_cons, List.length_map, hq]; exact Nat.le_refl _
        · omega
      rw [List.length_append, List.length_append, List.length_drop, List.length_take]
      omega
    refine ⟨ih.1, ?_, ?_, fun h5 => ih.2.2.2 (by simpa using h5)⟩
    · have a1 := ih.2.1; have a2 := ih.2.2.1
      rw [e2] at a1 a2
      have h1 := h.1; have h2 := h.2.1
      omega
    · have a2 := ih.2.2.1
      rw [e2] at a2
      have h1 := h.1; have h2 := h.2.1
      omega
theorem rn_ok {l : List Nd} (hw : WfN l) (hd : DepOk l) (hR : ∀ i, i < l.length → kd l i = 5 → dep l i ≤ 0) : ∀ j, j ≤ (kidsOf l (-1)).length → RngOk 0 (rn l l.length (kidsOf l (-1)) 0 j) (dn l l.length (kidsOf l (-1)) j).length
  | 0, _ => by simp [rn, rgsL, dn, RngOk]
  | j + 1, hj => by
    have ih := rn_ok hw hd hR j (by omega)
    have hjl : j < (kidsOf l (-1)).length := by omega
    have hx : (kidsOf l (-1))[j] < l.length := by
      have := (kidsOf_mem (l := l) (node := -1) (by omega) (by omega) (List.getElem_mem hjl)).2
      omega
    have hrs := rn_s (l := l) (f := l.length) (r := 0) hjl
    rw [Nat.zero_add, rgs_top hw hd hR l.length _ _ (by omega) hx] at hrs
    rw [hrs, dn_s hjl, List.length_append]
    split
    · exact ih.snoc (Nat.le_refl _) (by omega) (Nat.le_refl _)
    · rw [List.append_nil]
      exact ih.more (by omega)
theorem rings_ok {l : List Nd} (hw : WfN l) (hd : DepOk l) (hR : ∀ i, i < l.length → kd l i = 5 → dep l i ≤ 0) : RngOk 0 (ringsOf l) (lvN l).length := by
  have h := rn_ok hw hd hR _ (Nat.le_refl _)
  rw [ringsOf_rn]
  have e2 : (lvN l).length = (dn l l.length (kidsOf l (-1)) (kidsOf l (-1)).length).length := by unfold lvN; rw [leaves_dn, List.length_map]
  rw [e2]
  exact h
/-- The state of Flat's loop: what was put out, and the spans. -/
structure FO (B : Nat) (w : World) (L : List Nd) (v : Value) (A4 : Option Addr) (c4 m : Nat) (sp : List (Int × Int)) (W : World) : Prop where
  out : OutT B w L v W
  sp : W.ownsRow (B + 1) 95 2 (.slice A4 m c4) m (flat2 sp)
theorem FO.below {B : Nat} {w W W' : World} {L : List Nd} {v : Value} {A4 : Option Addr} {c4 m : Nat} {sp : List (Int × Int)} (h : FO B w L v A4 c4 m sp W) (hb : Below W.heap.size W W') : FO B w L v A4 c4 m sp W' := ⟨h.out.below hb, own_keep h.sp hb⟩
theorem FO.step {B n k : Nat} {w W W3 w4 : World} {L T : List Nd} {v v4 : Value} {A4 : Option Addr} {c4 m : Nat} {sp : List (Int × Int)} (h : FO B w L v A4 c4 m sp W) (hb : Below W.heap.size W W3) (hn : n = L.length) (hm : k = T.length) (ho : w4.ownsRow (B + 1) 78 8 v4 (n + k) (flatN L ++ flatN T)) (hg : W3.grownBy w4 v.ownBlock) :
    w4.cell? ⟨B, 0, none⟩ = some v ∧ w4.frozen? ⟨B, 0, none⟩ = false ∧ FO B w (L ++ T) v4 A4 c4 m sp (w4.setCell ⟨B, 0, none⟩ v4) := by
  subst hn hm
  have h3 := h.out.below hb
  have hne : v.ownBlock ≠ some B := fun e => by have := (h3.own.lt _ e).1; omega
  have hk : w4.heap[B]? = some (.cells #[v] 27 (0, 0)) := (hg.block B (lt_of_block h3.o_) (fun e => hne e.symm)).trans h3.o_
  have hs := (own_keep h.sp hb).kept hg (own_ne (own_keep h.sp hb) h3.own (by decide))
  refine ⟨cell_of_one hk, free_of_one hk, ⟨one_setCell hk, ?_, (below_app h3.bel h3.own hg (by omega) (by have := lt_of_block h3.o_; omega)).setCell (by simp) _⟩, ownsRow_setCell_other hs (a := ⟨B, 0, none⟩) (fun he => by have := (hs.lt _ he).1; simp at this <;> omega) _⟩
  rw [List.length_append, flatN_app]
  exact ownsRow_setCell_other ho (a := ⟨B, 0, none⟩) (fun he => by have := (ho.lt _ he).1; simp at this <;> omega) _
theorem Nds.seg {w : World} {B a f c : Nat} {A : Option Addr} {l : List Nd} (h : Nds w B A l) (hf : f ≤ l.length) (hc : l.length ≤ c) : Nds w B (if c = a then A else Option.map (fun x => x.add (a * 8)) A) ((l.take f).drop a) := by
  have hl : ((l.take f).drop a).length = f - a := by simp; omega
  refine ⟨by rw [flatN_len], fun hn => ?_⟩
  rw [hl] at hn
  obtain ⟨ad, e, hb, hcl⟩ := h.2 (by omega)
  subst e
  rw [if_neg (by omega)]
  refine ⟨ad.add (a * 8), rfl, by rw [block_of_add]; exact hb, fun j u hu => ?_⟩
  rw [flatN_drop, flatN_take, List.getElem?_drop, List.getElem?_take] at hu
  split at hu
  · rw [Go.Deep.add_add]
    exact hcl _ u hu
  · cases hu
end Go.Proofs.Ytddbnggficlcfaa

/- An append to a slice of the call's own: the row lies where it lay, or in new memory. -/
namespace Go.Proofs.Ytddbnggficlcfaa
open Go.RowKit
theorem run_append_freshS {P : Program} (w : World) (base : Nat) (t ty e : TypeId) (i : TypeInfo) (z : Value) (size bytes : Nat) (ht : P.underlying t = some (.slice e)) (hi : P.info? e = some i) (hz : i.zero = some z)
    (hsize : i.size = size) (hby : i.bytes = bytes) (hzs : z.cells.size = size) (hsz : 0 < size)
    (v : Value) (n : Nat) (xs : List Value) (hown : w.ownsRow base e size v n xs)
    (a : Addr) (c : Nat) (ys : List Value) (hl : ys.length = size) (hy : ∀ j u, ys[j]? = some u → w.cell? (a.add j) = some u) (hy1 : ∀ u ∈ ys, u.oneCell' = true)
    (h63 : n + 1 ≤ maxLen) (hbytes : (n + 1) * bytes ≤ 140737488355328) (hbase : base ≤ w.heap.size) :
    ∃ v' w', (Builtin.append_ #[t, t] ty #[v, .slice (some a) 1 c]).run P w = .ok v' w' ∧ w'.ownsRow base e size v' (n + 1) (xs ++ ys) ∧ w.grownBy w' v.ownBlock ∧ ∀ k, v'.ownBlock = some k → v.ownBlock = some k ∨ w.heap.size ≤ k := by
  obtain ⟨v', w', hr0, h1, h2, _⟩ := run_append_own (P := P) w base t ty e i z size bytes ht hi hz hsize hby hzs hsz v n xs hown a 1 c ys (by omega) hy hy1 h63 hbytes hbase
  refine ⟨v', w', hr0, h1, h2, ?_⟩
  have hn63 : n + 1 ≤ 9223372036854775807 := by simp only [maxLen] at h63; omega
  subst hby
  rcases hown.2 with ⟨rfl, rfl⟩ | ⟨g, cap, cur, rfl, hbg, hg, hnc, hcm, hcs, htake⟩
  · have hr := run_append_nil (P := P) w t ty e i z ht hi hz a 1 c ys (by rw [hsize]; omega) hy (by omega) (by omega) (by omega)
    rw [hr0] at hr
    injection hr with hv _
    subst hv
    intro k hk
    have hk2 : w.heap.size = k := by injection hk
    exact .inr (by omega)
  · by_cases hroom : n + 1 ≤ cap
    · have hr := run_append_room (P := P) w t ty e i ht hi g n cap cur hg a 1 c ys (by rw [hsize]; omega) hy hy1 hroom (by
        rw [hsize, hcs]
        have := Nat.mul_le_mul_right size hroom
        rw [hl, Nat.add_mul] at *
        simp at *
        omega)
      rw [hr0] at hr
      injection hr with hv _
      subst hv
      exact fun k hk => .inl hk
    · have holds : ∀ j u, xs[j]? = some u → w.cell? ((⟨g, 0, none⟩ : Addr).add j) = some u := hown.cells (g := g) rfl
      have hr := run_append_grow (P := P) w t ty e i z ht hi hz ⟨g, 0, none⟩ n cap xs (by rw [hsize]; exact hown.1) holds a 1 c ys (by rw [hsize]; omega) hy (by omega) (by omega) (growslice_fits (by omega) hbytes)
      rw [hr0] at hr
      injection hr with hv _
      subst hv
      intro k hk
      have hk2 : w.heap.size = k := by injection hk
      exact .inr (by omega)
theorem app_elemF {P : Program} {ops : Array Oper} {rest : List Oper} {o : Oper} {a : Act} {w : World} {Q : Exit → Act → World → Prop} (hgd : o.guard = none) (s x : Operand) {t e : TypeId} {z : Value} {size bytes : Nat}
    (ht : P.underlying t = some (.slice e)) (hinfo : (P.info? e).map (fun i => (i.zero, i.size, i.bytes)) = some (some z, size, bytes)) (hz1 : z.cells.size = size) (hsz : 0 < size) (hb8 : bytes ≤ 1000)
    (ho : o.op = .call { callee := .builtin .append, args := #[s, x], argTypes := #[t, t] })
    (base : Nat) (v : Value) (n : Nat) (xs : List Value) (hs : a.eval s = v) (hown : w.ownsRow base e size v n xs)
    (ad : Addr) (ys : List Value) (hx : a.eval x = .slice (some ad) 1 1) (hl : ys.length = size) (hy : ∀ j u, ys[j]? = some u → w.cell? (ad.add j) = some u) (hy1 : ∀ u ∈ ys, u.oneCell' = true) (hn : n ≤ 10000000000) (hbase : base ≤ w.heap.size)
    (h : ∀ v' w', w'.ownsRow base e size v' (n + 1) (xs ++ ys) → w.grownBy w' v.ownBlock → (∀ k, v'.ownBlock = some k → v.ownBlock = some k ∨ w.heap.size ≤ k) → wpList P ops Q rest (a.put o.dst v') w') : wpList P ops Q (o :: rest) a w := by
  obtain ⟨i0, hi, hz0, hzz, hz2⟩ := info_parts hinfo
  have hm : (n + 1) * bytes ≤ 140737488355328 := by
    have := Nat.mul_le_mul_left (n + 1) hb8
    omega
  obtain ⟨v', w', hrun, r1, r2, r3⟩ := run_append_freshS (P := P) w base t o.type e i0 z size bytes ht hi hz0 hzz hz2 hz1 hsz v n xs hown ad 1 ys hl hy hy1 (by unfold maxLen; omega) hm hbase
  refine wpList_plain hgd fun K hK' => ?_
  unfold Oper.wp execOp
  simp only [ho, resolve, invoke, builtin, Sem.run_bind, Sem.run_pure, Result.andThen_ok, List.map_toArray, List.map_cons, List.map_nil, hs, hx, hrun]
  exact hK' _ _ (h v' w' r1 r2 r3)
/-- What stays behind a step of Flat's loop. -/
theorem FO.keep {B : Nat} {w W W3 w4 : World} {L : List Nd} {v v4 : Value} {A4 : Option Addr} {c4 m : Nat} {sp : List (Int × Int)} (h : FO B w L v A4 c4 m sp W) (hb : Below W.heap.size W W3) (hg : W3.grownBy w4 v.ownBlock) {j : Nat} {cs : Array Value} {T : TypeId} (hx : W.heap[j]? = some (.cells cs T (0, 0))) (hj : j ≠ B) (hT : T ≠ 78) :
    (w4.setCell ⟨B, 0, none⟩ v4).heap[j]? = some (.cells cs T (0, 0)) := by
  rw [Below.heap_setCell _ _ _ _ hj]
  have h3 := (hb.block _ (lt_of_block hx)).trans hx
  refine (hg.block j (lt_of_block h3) fun e => ?_).trans h3
  obtain ⟨cur, h4⟩ := own_type (own_keep h.out.own hb) e.symm
  rw [h3] at h4
  injection h4 with h4
  injection h4 with _ h5 _
  exact hT h5
/-- A cell of another row is stored. -/
theorem FO.set {B g j : Nat} {w W : World} {L : List Nd} {v u : Value} {A4 : Option Addr} {c4 m : Nat} {sp : List (Int × Int)} (h : FO B w L v A4 c4 m sp W) (hg : B < g) (hv : v.ownBlock ≠ some g) (hs : (Value.slice A4 m c4).ownBlock ≠ some g) (hw : w.heap.size ≤ B) : FO B w L v A4 c4 m sp (W.setCell ⟨g, j, none⟩ u) :=
  ⟨⟨(Below.heap_setCell _ _ _ _ (by simp; omega)).trans h.out.o_, ownsRow_setCell_other h.out.own (a := ⟨g, j, none⟩) hv u, h.out.bel.setCell (by simp; omega) u⟩, ownsRow_setCell_other h.sp (a := ⟨g, j, none⟩) hs u⟩
end Go.Proofs.Ytddbnggficlcfaa
