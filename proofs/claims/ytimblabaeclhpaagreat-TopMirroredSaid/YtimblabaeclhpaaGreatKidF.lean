/- WALK: layout.kids: the figures of the kids of a node. -/
import Derived.Test.YtimblabaeclhpaaGreatApF
import Derived.Test.YtimblabaeclhpaaGreatFigW
import Derived.Test.YtimblabaeclhpaaGreatLayW
import Derived.Test.YtimblabaeclhpaaGreatTextL
namespace Go.Proofs.YtimblabaeclhpaaGreat
open Go.RowKit
theorem fig_iface {ss : List Sg} {l : List Nd} {rows : Bool} {ok : Nat → Prop} {W : World} : ∀ (f i : Nat) (v : Value), FigAt ss l rows ok W f i v → ∃ T r, v = .iface T r
  | 0, _, _, h => h.elim
  | f + 1, i, v, h => by
    unfold FigAt at h
    split at h
    · exact ⟨_, _, h⟩
    · split at h
      · exact ⟨_, _, h⟩
      · split at h
        · obtain ⟨u, _, h⟩ := h; exact ⟨_, _, h⟩
        · obtain ⟨_, _, _, h, _⟩ := h; exact ⟨_, _, h⟩
/-- Blocks that are new. -/
def newB (B : Nat) (W : World) : Nat → Prop := fun b => B ≤ b ∧ b < W.heap.size
def FigOk (P : Int) (ss : List Sg) (l : List Nd) (rows : Bool) (f k : Nat) : Prop := ∀ (A A2 : Option Addr) (c c2 : Nat) (w : World), Sgs w w.heap.size A ss → Nds w w.heap.size A2 l →
  Calls Tryz.prog 41 #[.agg #[.int .i64 P, .slice A ss.length c, .slice A2 l.length c2, .bool rows], .int .i64 k] w fun e w' => ∃ v, e = .returned v ∧ FigAt ss l rows (newB w.heap.size w') w' f k v ∧ Below w.heap.size w w'
/-- Figures in a slice that grows. -/
structure FigS (ss : List Sg) (l : List Nd) (rows : Bool) (f B : Nat) (ks : List Nat) (v : Value) (W : World) : Prop where
  own : ∃ vs, W.ownsRow B 111 1 v ks.length vs ∧ ∀ j (h : j < ks.length), ∃ u, vs[j]? = some u ∧ FigAt ss l rows (fun b => newB B W b ∧ v.ownBlock ≠ some b) W f ks[j] u
theorem FigS.below {ss : List Sg} {l : List Nd} {rows : Bool} {f B : Nat} {ks : List Nat} {v : Value} {W W' : World} (h : FigS ss l rows f B ks v W) (hb : Below W.heap.size W W') : FigS ss l rows f B ks v W' := by
  obtain ⟨vs, h1, h2⟩ := h.own
  refine ⟨vs, own_keep h1 hb, fun j hj => ?_⟩
  obtain ⟨u, h3, h4⟩ := h2 j hj
  exact ⟨u, h3, FigAt.keep (fun b h => hb.block b h.1.2) (fun b h => ⟨⟨h.1.1, Nat.lt_of_lt_of_le h.1.2 hb.size⟩, h.2⟩) _ _ _ h4⟩
theorem own_down {w : World} {B B' : Nat} {v : Value} {e : TypeId} {size n : Nat} {xs : List Value} (h : w.ownsRow B e size v n xs) (hb : B' ≤ B) : w.ownsRow B' e size v n xs := by
  obtain ⟨h1, h2⟩ := h
  refine ⟨h1, ?_⟩
  rcases h2 with h2 | ⟨g, cap, cur, hv, hg, r⟩
  · exact Or.inl h2
  · exact Or.inr ⟨g, cap, cur, hv, by omega, r⟩
theorem FigS.snoc {ss : List Sg} {l : List Nd} {rows : Bool} {f B k : Nat} {ks : List Nat} {v v' x : Value} {W W2 W3 w4 w5 : World} {vs : List Value} (h1 : W.ownsRow B 111 1 v ks.length vs) (h2 : ∀ j (h : j < ks.length), ∃ u, vs[j]? = some u ∧ FigAt ss l rows (fun b => newB B W b ∧ v.ownBlock ≠ some b) W f ks[j] u)
    (hB : B ≤ W.heap.size) (h12 : Below W.heap.size W W2) (hb : Below W2.heap.size W2 W3) (hx : FigAt ss l rows (newB W2.heap.size W3) W3 f k x) (h34 : Below W3.heap.size W3 w4) (ho : w5.ownsRow B 111 1 v' (ks.length + 1) (vs ++ [x])) (hg : w4.grownBy w5 v.ownBlock) (hf : ∀ q, v'.ownBlock = some q → v.ownBlock = some q ∨ w4.heap.size ≤ q) : FigS ss l rows f B (ks ++ [k]) v' w5 := by
  have hz1 := h12.size; have hz2 := hb.size; have hz3 := h34.size; have hz4 := hg.size
  have hvl : vs.length = ks.length := by have := h1.1; omega
  refine ⟨vs ++ [x], by rw [List.length_append]; exact ho, fun j hj => ?_⟩
  by_cases hj2 : j < ks.length
  · obtain ⟨u, h3, h4⟩ := h2 j hj2
    refine ⟨u, by rw [List.getElem?_append_left (by omega)]; exact h3, ?_⟩
    rw [List.getElem_append_left hj2]
    refine FigAt.keep (fun b h => ?_) (fun b h => ⟨⟨h.1.1, by have := h.1.2; omega⟩, fun e => ?_⟩) _ _ _ h4
    · have hbl := h.1.2
      exact (((hg.block b (by omega) fun e => h.2 e.symm).trans (h34.block b (by omega))).trans (hb.block b (by omega))).trans (h12.block b hbl)
    · rcases hf b e with e2 | e2
      · exact h.2 e2
      · have := h.1.2; omega
  · rw [List.length_append, List.length_singleton] at hj
    obtain rfl : j = ks.length := by omega
    refine ⟨x, by rw [List.getElem?_append_right (by omega), hvl, Nat.sub_self]; rfl, ?_⟩
    rw [List.getElem_append_right (Nat.le_refl _)]
    simp only [Nat.sub_self, List.getElem_singleton]
    have hne : ∀ b, W2.heap.size ≤ b → v.ownBlock ≠ some b := fun b hb2 e => by have := (h1.lt _ e).2; omega
    refine FigAt.keep (fun b h => ?_) (fun b h => ⟨⟨by have := h.1; omega, by have := h.2; omega⟩, fun e => ?_⟩) _ _ _ hx
    · exact (hg.block b (by have := h.2; omega) fun e => hne b h.1 e.symm).trans (h34.block b h.2)
    · rcases hf b e with e2 | e2
      · exact hne b h.1 e2
      · have := h.2; omega
theorem Tryz.underFigs : Tryz.prog.underlying 136 = some (.slice 111) := by kernel_rfl
theorem Tryz.infoFig : (Tryz.prog.info? 111).map (fun i => (i.zero, i.size, i.bytes)) = some (some .nilIface, 1, 16) := by kernel_rfl
theorem one_in {W : World} {x : Value} {T : TypeId} : ∀ j u, [x][j]? = some u → (W.alloc (.cells #[x] T)).cell? ((⟨W.heap.size, 0, none⟩ : Addr).add j) = some u := by
  intro j u h
  cases j with
  | zero => simp at h; subst h; rw [Addr.add_lit]; exact cell_here rfl rfl
  | succ j => simp at h
set_option maxRecDepth 100000 in
set_option maxHeartbeats 4000000 in
theorem lkids_any (P : Int) (ss : List Sg) (l : List Nd) (rows : Bool) (hn : l.length ≤ 1000000) (f i : Nat) (hi : i < l.length) (ih : ∀ k, i < k → k < l.length → FigOk P ss l rows f k) (A A2 : Option Addr) (c c2 : Nat) (w : World) (rs : Sgs w w.heap.size A ss) (rn : Nds w w.heap.size A2 l) :
    Calls Tryz.prog 61 #[.agg #[.int .i64 P, .slice A ss.length c, .slice A2 l.length c2, .bool rows], .int .i64 i] w fun e w' => ∃ v, e = .returned v ∧ FigS ss l rows f w.heap.size (kidsOf l (i : Int)) v w' ∧ Below w.heap.size w w' := by
  obtain ⟨w1, hw1⟩ : ∃ w1, w1 = w.alloc (.cells #[.int .i64 P, .slice A ss.length c, .slice A2 l.length c2, .bool rows] 69) := ⟨_, rfl⟩
  have hb1 : Below w.heap.size w w1 := by rw [hw1]; exact (Below.refl _ _).alloc (Nat.le_refl _) _
  have hz1 : w1.heap.size = w.heap.size + 1 := by rw [hw1]; simp
  have c0 : w1.cell? ⟨w.heap.size, 0, none⟩ = some (.int .i64 P) := by rw [hw1]; exact cell_here rfl rfl
  have c1 : w1.cell? ⟨w.heap.size, 1, none⟩ = some (.slice A ss.length c) := by rw [hw1]; exact cell_here rfl rfl
  have c2' : w1.cell? ⟨w.heap.size, 2, none⟩ = some (.slice A2 l.length c2) := by rw [hw1]; exact cell_here rfl rfl
  have c3 : w1.cell? ⟨w.heap.size, 3, none⟩ = some (.bool rows) := by rw [hw1]; exact cell_here rfl rfl
  have HC := hid fun (W : World) (h : Below w1.heap.size w1 W) => (show W.cell? ⟨w.heap.size, 0, none⟩ = some (.int .i64 P) ∧ W.cell? ⟨w.heap.size, 1, none⟩ = some (.slice A ss.length c) ∧ W.cell? ⟨w.heap.size, 2, none⟩ = some (.slice A2 l.length c2) ∧ W.cell? ⟨w.heap.size, 3, none⟩ = some (.bool rows) from
    ⟨(h.cell (by show w.heap.size < _; omega)).trans c0, (h.cell (by show w.heap.size < _; omega)).trans c1, (h.cell (by show w.heap.size < _; omega)).trans c2', (h.cell (by show w.heap.size < _; omega)).trans c3⟩)
  have HRN := hid fun (W : World) (h : Below w1.heap.size w1 W) => (show Nds W W.heap.size A2 l from Reads.more (rn.below (hb1.trans (h.mono hb1.size))) (Nat.le_trans hb1.size h.size))
  have HRS := hid fun (W : World) (h : Below w1.heap.size w1 W) => (show Sgs W W.heap.size A ss from (rs.below (hb1.trans (h.mono hb1.size))).more (Nat.le_trans hb1.size h.size))
  have HLE := hid fun (k : Nat) (hk : k < l.length) (W : World) (h : Below w1.heap.size w1 W) => lend_any P A ss.length c rows l k hk hn A2 c2 W (HRN.out W h)
  have HFG := hid fun (k : Nat) (h0 : i < k) (hk : k < l.length) (W : World) (h : Below w1.heap.size w1 W) => ih k h0 hk A A2 c c2 W (HRS.out W h) (HRN.out W h)
  have hko : kidsOf l (i : Int) = kidsFrom l (endOf l i) (i + 1) := by unfold kidsOf kidsTo kidsFr; rw [if_pos (by omega), if_pos (by omega)]; rfl
  have hel := endOf_le hi
  have HIN := hid fun (k : Nat) (h0 : i < k) (h1 : k < endOf l i) => (show k < endOf l k ∧ endOf l k ≤ endOf l i from ⟨endOf_gt l k, by
    have := end_in (l := l) (node := (i : Int)) (by omega) (by omega) (x := k) (by unfold kidsFr; rw [if_pos (by omega)]; omega) (by unfold kidsTo; rw [if_pos (by omega)]; exact h1)
    unfold kidsTo at this
    rw [if_pos (by omega)] at this
    exact this⟩)
  have HIG := hid (endOf_gt l i)
  obtain ⟨E, hE⟩ : ∃ E, E = endOf l i := ⟨_, rfl⟩
  obtain ⟨n, hnn⟩ : ∃ n, n = l.length := ⟨_, rfl⟩
  obtain ⟨N, hN⟩ : ∃ N, N = ss.length := ⟨_, rfl⟩
  rw [← hE] at HIN HIG hel hko
  have HLI := hid fun (W : World) (h : Below w1.heap.size w1 W) => HLE.out i hi W h
  rw [← hE] at HLI
  rw [← hnn] at HLE HFG HLI HC c2' hw1 hn hel hi ⊢
  rw [← hN] at HLE HFG HLI HC c1 hw1 ⊢
  have HW1 := hid hw1; have HB1 := hid hb1; have HKO := hid hko; have HZ1 := hid hz1
  clear hw1 hb1 hko ih rs rn hE hnn hN hz1 c0 c1 c2' c3 HRN HRS
  go_enter Tryz.func61, Tryz.ntmps61
  go_upto_region 1 with (fail)
  rw [← HW1.out]
  clear HW1
  obtain ⟨B0, hB0⟩ : ∃ B0, B0 = w.heap.size := ⟨_, rfl⟩
  rw [← hB0] at HC
  rw [← hB0]
  have HB0 := hid hB0
  clear hB0
  go_wp2_with fail
  go_loopw [4, 5] (fun v kv wr => ∃ (k : Nat) (dn : List Nat), (i < k ∧ k ≤ E) ∧ kv = .int .i64 k ∧ Hid (kidsOf l (i : Int) = dn ++ kidsFrom l E k ∧ dn.length ≤ k) ∧ Hid (FigS ss l rows f (B0 + 1) dn v wr) ∧ Hid (Below w1.heap.size w1 wr)) (fun _ kv _ => E - (intOf kv).toNat)
  case atStart => exact ⟨i + 1, [], ⟨by omega, HIG.out⟩, by go_num, hid ⟨by rw [HKO.out]; rfl, by simp⟩, hid ⟨⟨[], World.ownsRow_nil _ _ _ _, fun j hj => by cases hj⟩⟩, hid (Below.refl _ _)⟩
  case round =>
    obtain ⟨k, dn, ⟨hk0, hk1⟩, rfl, hK, hS, hB⟩ := hrel
    obtain ⟨p0, p1, p2, p3⟩ := HC.out wr hB.out
    by_cases hkE : k < E
    · obtain ⟨hg1, hg2⟩ := HIN.out k hk0 hkE
      obtain ⟨vs, hown, hfig⟩ := hS.out.own
      have q0 : (k : Int) < (E : Int) := by omega
      have HL1 := hid (HLI.out wr hB.out)
      have hnx := kidsFrom_s (l := l) hkE
      have HNX := hid hnx; have HOW := hid hown; have HFI := hid hfig
      obtain ⟨m, hm⟩ : ∃ m, m = dn.length := ⟨_, rfl⟩
      have hm2 : m ≤ k := by rw [hm]; exact hK.out.2
      have HM := hid hm
      have HAP := hid fun (w2 w3 w4 w5 : World) (x v' : Value) (hb2 : Below wr.heap.size wr w2) (hb3 : Below w2.heap.size w2 w3) (hx : FigAt ss l rows (newB w2.heap.size w3) w3 f k x) (h34 : Below w3.heap.size w3 w4) (ho : w5.ownsRow (B0 + 1) 111 1 v' (dn.length + 1) (vs ++ [x])) (hg : w4.grownBy w5 u4.ownBlock) (hf : ∀ q, v'.ownBlock = some q → u4.ownBlock = some q ∨ w4.heap.size ≤ q) =>
        (show FigS ss l rows f (B0 + 1) (dn ++ [k]) v' w5 ∧ Below w1.heap.size w1 w5 from by
          have z1 := HZ1.out; have z2 := HB0.out; have z3 := hB.out.size; have z4 := hb2.size; have z5 := hb3.size; have z6 := h34.size
          refine ⟨FigS.snoc hown hfig (by omega) hb2 hb3 hx h34 ho hg hf, below_app (B' := B0 + 1) (bnext0 (bnext0 (bnext0 hB.out hb2) hb3) h34) (own_keep (own_keep (own_keep hown hb2) hb3) h34) hg (by omega) (by omega)⟩)
      have HKN := hid (show kidsOf l (i : Int) = (dn ++ [k]) ++ kidsFrom l E (endOf l k) ∧ (dn ++ [k]).length ≤ endOf l k from ⟨by rw [hK.out.1, hnx, List.append_assoc]; rfl, by have := hK.out.2; simp; omega⟩)
      clear hm hnx hown hfig hS
      go_wp2_with (first | (go_at_call 56; refine HL1.out.mono ?_; rintro e w2 ⟨rfl, hb2⟩; have HB2 := hid hb2; have HX2 := hid (bnext0 hB.out hb2); obtain ⟨s0, s1, s2, s3⟩ := HC.out w2 HX2.out; clear hb2 p0 p1 p2 p3 HL1) | (go_at_call 41; refine (HFG.out k hk0 (by omega) w2 HX2.out).mono ?_; rintro e w3 ⟨x, rfl, hx, hb3⟩; obtain ⟨T, r, rfl⟩ := fig_iface _ _ _ hx; have HF3 := hid hx; have HB3 := hid hb3; have HX3 := hid (bnext0 HX2.out hb3); have HZ3 := hid (Nat.le_trans HX3.out.size (Nat.le_refl _)); have HO3 := hid (fun (X : Obj) => own_keep (own_keep (own_keep HOW.out HB2.out) hb3) ((Below.refl w3.heap.size w3).alloc (Nat.le_refl _) X)); clear hx hb3 s0 s1 s2 s3) | (at_builtin; refine app_elemF rfl (.tmp 16) (.tmp 20) Tryz.underFigs Tryz.infoFig rfl (by decide) (by decide) rfl (B0 + 1) _ dn.length vs rfl (HO3.out _) ⟨w3.heap.size, 0, none⟩ [.iface T r] rfl rfl one_in (fun u hu => by rw [List.mem_singleton.1 hu]; rfl) (by have := hK.out.2; omega) (by have h1 := HZ3.out; have h2 := HZ1.out; have h3 := HB0.out; simp; omega) ?_; intro v5 w5 ho5 hg5 hf5; obtain ⟨hs5, hx5⟩ := HAP.out w2 w3 _ w5 _ v5 HB2.out HB3.out HF3.out ((Below.refl w3.heap.size w3).alloc (Nat.le_refl _) _) ho5 hg5 hf5; have HS5 := hid hs5; have HX5 := hid hx5; obtain ⟨s0, s1, s2, s3⟩ := HC.out w5 hx5; clear ho5 hg5 hf5 hs5 hx5 HAP) | (go_at_call 56; refine (HLE.out k (by omega) w5 HX5.out).mono ?_; rintro e w6 ⟨rfl, hb6⟩; have HS6 := hid (HS5.out.below hb6); have HX6 := hid (bnext0 HX5.out hb6); clear hb6 s0 s1 s2 s3))
      go_roundw
      case rel => exact ⟨endOf l k, dn ++ [k], ⟨by omega, hg2⟩, rfl, HKN, HS6, HX6⟩
      case measure => simp [intOf]; omega
    · obtain rfl : k = E := by omega
      have q0 : decide ((k : Int) < (k : Int)) = false := by simp
      have HL1 := hid (HLI.out wr hB.out)
      have HKE := hid (show kidsOf l (i : Int) = dn from by rw [hK.out.1, kidsFrom_stop (by omega), List.append_nil])
      have HSX := hid fun (W : World) (hb : Below wr.heap.size wr W) => (show FigS ss l rows f w.heap.size dn u4 W from by
        have h0 := HB0.out
        obtain ⟨vs, hown, hfig⟩ := (hS.out.below hb).own
        refine ⟨vs, own_down hown (by omega), fun j hj => ?_⟩
        obtain ⟨u, h1, h2⟩ := hfig j hj
        exact ⟨u, h1, FigAt.keep (fun _ _ => rfl) (fun b h => ⟨⟨by have := h.1.1; omega, h.1.2⟩, h.2⟩) _ _ _ h2⟩)
      clear hS hK
      go_wp2_with (first | (go_at_call 56; refine HL1.out.mono ?_; rintro e w2 ⟨rfl, hb2⟩; have HB2 := hid hb2; have HX2 := hid (bnext0 hB.out hb2); clear hb2 p0 p1 p2 p3 HL1))
      go_ret
      exact ⟨u4, rfl, by rw [HKE.out]; exact HSX.out _ HB2.out, HB1.out.trans (HX2.out.mono HB1.out.size)⟩
/-- The kids' figures, as a row. -/
theorem FigS.row {ss : List Sg} {l : List Nd} {rows : Bool} {f B : Nat} {ks : List Nat} {v : Value} {W : World} (h : FigS ss l rows f B ks v W) : ∃ (A : Option Addr) (c : Nat), v = .slice A ks.length c ∧ ∃ vs, RdK (newB B W) W A ks.length vs ∧ ∀ j (h : j < ks.length), ∃ u, vs[j]? = some u ∧ FigAt ss l rows (newB B W) W f ks[j] u := by
  obtain ⟨vs, h1, h2⟩ := h.own
  obtain ⟨A, c, rfl⟩ := own_slice h1
  have hl : vs.length = ks.length := by have := h1.1; omega
  refine ⟨A, c, rfl, vs, ⟨hl, fun hn => ?_⟩, fun j hj => ?_⟩
  · obtain ⟨g, c9, hv9, hgb, hgl⟩ := own_some h1 hn
    simp only [Value.slice.injEq, true_and] at hv9
    obtain ⟨rfl, rfl⟩ := hv9
    exact ⟨_, rfl, ⟨hgb, (h1.lt g rfl).2⟩, h1.cells (g := g) rfl⟩
  · obtain ⟨u, h3, h4⟩ := h2 j hj
    exact ⟨u, h3, FigAt.keep (fun _ _ => rfl) (fun b h => h.1) _ _ _ h4⟩
theorem FigS.rowF {ss : List Sg} {l : List Nd} {rows : Bool} {f B i : Nat} {A : Option Addr} {c : Nat} {T : TypeId} {sp : Int} {W : World} (h : FigS ss l rows f B (kidsOf l (i : Int)) (.slice A (kidsOf l (i : Int)).length c) W) (hT : T = if acr rows (nd l i) then 139 else 140) (hs : sp = spcOf (nd l i)) : RowF (newB B W) W (FigAt ss l rows (newB B W) W f) l rows i (.iface T (.agg #[.slice A (kidsOf l (i : Int)).length c, .int .i64 sp])) := by
  obtain ⟨A', c', e, vs, h1, h2⟩ := h.row
  simp only [Value.slice.injEq, true_and] at e
  obtain ⟨rfl, rfl⟩ := e
  exact ⟨A, c, vs, by rw [hT, hs], h1, h2⟩
theorem FigS.less {ss : List Sg} {l : List Nd} {rows : Bool} {f B B' : Nat} {ks : List Nat} {v : Value} {W : World} (h : FigS ss l rows f B ks v W) (hB : B' ≤ B) : FigS ss l rows f B' ks v W := by
  obtain ⟨vs, hown, hfig⟩ := h.own
  refine ⟨vs, own_down hown hB, fun j hj => ?_⟩
  obtain ⟨u, h1, h2⟩ := hfig j hj
  exact ⟨u, h1, FigAt.keep (fun _ _ => rfl) (fun b h => ⟨⟨by have := h.1.1; omega, h.1.2⟩, h.2⟩) _ _ _ h2⟩
set_option maxRecDepth 100000 in
set_option maxHeartbeats 4000000 in
theorem linside_any (P : Int) (ss : List Sg) (l : List Nd) (rows : Bool) (hn : l.length ≤ 1000000) (f i : Nat) (hi : i < l.length) (h5 : kd l i = 5) (ih : ∀ k, i < k → k < l.length → FigOk P ss l rows f k) (A A2 : Option Addr) (c c2 : Nat) (w : World) (rs : Sgs w w.heap.size A ss) (rn : Nds w w.heap.size A2 l) :
    Calls Tryz.prog 64 #[.agg #[.int .i64 P, .slice A ss.length c, .slice A2 l.length c2, .bool rows], .int .i64 i] w fun e w' => ∃ v, e = .returned v ∧ RowF (newB w.heap.size w') w' (FigAt ss l rows (newB w.heap.size w') w' f) l rows i v ∧ Below w.heap.size w w' := by
  obtain ⟨w1, hw1⟩ : ∃ w1, w1 = w.alloc (.cells #[.int .i64 P, .slice A ss.length c, .slice A2 l.length c2, .bool rows] 69) := ⟨_, rfl⟩
  have hb1 : Below w.heap.size w w1 := by rw [hw1]; exact (Below.refl _ _).alloc (Nat.le_refl _) _
  have hz1 : w1.heap.size = w.heap.size + 1 := by rw [hw1]; simp
  have c0 : w1.cell? ⟨w.heap.size, 0, none⟩ = some (.int .i64 P) := by rw [hw1]; exact cell_here rfl rfl
  have c1 : w1.cell? ⟨w.heap.size, 1, none⟩ = some (.slice A ss.length c) := by rw [hw1]; exact cell_here rfl rfl
  have c2' : w1.cell? ⟨w.heap.size, 2, none⟩ = some (.slice A2 l.length c2) := by rw [hw1]; exact cell_here rfl rfl
  have c3 : w1.cell? ⟨w.heap.size, 3, none⟩ = some (.bool rows) := by rw [hw1]; exact cell_here rfl rfl
  have HLK := hid (lkids_any P ss l rows hn f i hi ih A A2 c c2 w1 ((rs.below hb1).more hb1.size) (Reads.more (rn.below hb1) hb1.size))
  have HRF := hid fun (A3 : Option Addr) (c3 : Nat) (W : World) (h : FigS ss l rows f w1.heap.size (kidsOf l (i : Int)) (.slice A3 (kidsOf l (i : Int)).length c3) W) => (show RowF (newB w.heap.size W) W (FigAt ss l rows (newB w.heap.size W) W f) l rows i (.iface (if rows = true then 139 else 140) (.agg #[.slice A3 (kidsOf l (i : Int)).length c3, .int .i64 20])) from
    FigS.rowF (h.less hb1.size) (by unfold acr; rw [nd_at hi, ← kd_at hi, h5]; simp) (by unfold spcOf; rw [nd_at hi, ← kd_at hi, h5, if_pos rfl]))
  obtain ⟨m, hm⟩ : ∃ m, m = (kidsOf l (i : Int)).length := ⟨_, rfl⟩
  rw [← hm] at HRF
  have HM := hid hm
  have HW1 := hid hw1; have HB1 := hid hb1
  clear hw1 hb1 hm ih rs rn h5 hz1
  generalize l.length = n at *
  generalize ss.length = N at *
  go_enter Tryz.func64, Tryz.ntmps64
  go_upto_region 1 with (fail)
  rw [← HW1.out]
  clear HW1
  obtain ⟨B0, hB0⟩ : ∃ B0, B0 = w.heap.size := ⟨_, rfl⟩
  rw [← hB0] at c0 c1 c2' c3
  rw [← hB0]
  have HB0 := hid hB0
  clear hB0
  cases rows with
  | true =>
    go_wp2_with (first | (go_at_call 61; refine HLK.out.mono ?_; rintro e w2 ⟨v, rfl, hf, hb2⟩; obtain ⟨A3, c4, rfl, _⟩ := hf.row; rw [← HM.out] at *; have HF := hid (HRF.out _ _ _ hf); have HB2 := hid hb2; clear hb2 hf c0 c1 c2' c3))
    go_ret
    exact ⟨_, rfl, HF.out, HB1.out.trans (HB2.out.mono HB1.out.size)⟩
  | false =>
    go_wp2_with (first | (go_at_call 61; refine HLK.out.mono ?_; rintro e w2 ⟨v, rfl, hf, hb2⟩; obtain ⟨A3, c4, rfl, _⟩ := hf.row; rw [← HM.out] at *; have HF := hid (HRF.out _ _ _ hf); have HB2 := hid hb2; clear hb2 hf c0 c1 c2' c3))
    go_ret
    exact ⟨_, rfl, HF.out, HB1.out.trans (HB2.out.mono HB1.out.size)⟩
end Go.Proofs.YtimblabaeclhpaaGreat
