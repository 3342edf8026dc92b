/- PROVED: ostraconlaw02.GroupsTwice returns true for every paper, and what it is given reads as before. Conditions: none. -/
import Derived.Test.YtddbnggficlcfaaFlt
import Derived.Test.YtddbnggficlcfaaAlike
import Derived.Test.YtddbnggficlcfaaArgs
import Derived.Test.YtddbnggficlcfaaRight
import Derived.Test.YtddbnggficlcfaaLinesLaw
import Derived.Test.YtddbnggficlcfaaFlatR
import Derived.Test.YtddbnggficlcfaaTextLaw
import Derived.Test.YtddbnggficlcfaaPlainW
import Derived.Test.YtddbnggficlcfaaRowP
namespace Go.Proofs.Ytddbnggficlcfaa
def spG (l : List Nd) : List Nat → Nat → List (Int × Int)
  | [], _ => []
  | k :: ks, r => (if kd l k = 5 then [((r : Int), ((r + (lvs l l.length (k : Int)).length : Nat) : Int))] else []) ++ spG l ks (r + (lvs l l.length (k : Int)).length)
theorem spG_app {l : List Nd} : ∀ (xs ys : List Nat) (r : Nat), spG l (xs ++ ys) r = spG l xs r ++ spG l ys (r + (xs.flatMap fun k : Nat => lvs l l.length (k : Int)).length)
  | [], ys, r => by simp [spG]
  | a :: xs, ys, r => by
    rw [List.cons_append, spG, spG, spG_app xs ys, List.append_assoc, List.flatMap_cons, List.length_append, Nat.add_assoc]
theorem spans_grp {ss : List Sg} {l : List Nd} (h : Val ss l) : spans l = spG l (kidsOf l (-1)) 0 := by
  rw [spans_rn]
  unfold rn
  rw [List.take_length]
  have hk : ∀ k ∈ kidsOf l (-1), k < l.length := fun k hk => by have := (kidsOf_mem (l := l) (node := -1) (by omega) (by omega) hk).2; omega
  have : ∀ (ks : List Nat) (r : Nat), (∀ k ∈ ks, k < l.length) → (rgsL (fun (k : Nat) r => rgs l l.length (k : Int) r) (fun k : Nat => (lvs l l.length (k : Int)).length) ks r).map spOf = spG l ks r := by
    intro ks
    induction ks with
    | nil => intro r _; rfl
    | cons k ks ih =>
      intro r hks
      have hkl := hks k (by simp)
      rw [rgsL, spG, List.map_append, ih _ fun x hx => hks x (by simp [hx]), rgs_top h.good.wf h.good.deps h.ringDep _ _ _ (by omega) hkl]
      congr 1
      split
      · rfl
      · rfl
  exact this _ _ hk
theorem spG_l {x y : List Nd} (hx : WfN x) (hy : dep y 0 = 0) : ∀ (ks : List Nat) (r : Nat), (∀ k ∈ ks, k < x.length) → spG (x ++ y) ks r = spG x ks r
  | [], _, _ => rfl
  | k :: ks, r, h => by
    have hk := h k (by simp)
    have e : lvs (x ++ y) (x ++ y).length (k : Int) = lvs x x.length (k : Int) := by rw [lvs_l hy hx.pos _ k hk, lvs_up hk (by simp)]
    rw [spG, spG, kd_l hk, e, spG_l hx hy ks _ fun a ha => h a (by simp [ha])]
theorem spans_cat {ss : List Sg} {x y : List Nd} (hx : Val ss x) (hy : Val ss y) (ho : One y) : spans (x ++ y) = spans x ++ (if kd y 0 = 5 then [(((leaves x).length : Int), (((leaves x).length + (leaves y).length : Nat) : Int))] else []) := by
  have hk : ∀ k ∈ kidsOf x (-1), k < x.length := fun k hk => by have := (kidsOf_mem (l := x) (node := -1) (by omega) (by omega) hk).2; omega
  rw [spans_grp (hx.cat hy), spans_grp hx, kids_top ho.first hx.good.wf.pos, kids_one ho, spG_app, spG_l hx.good.wf ho.first _ _ hk]
  congr 1
  have e : ((kidsOf x (-1)).flatMap fun k : Nat => lvs (x ++ y) (x ++ y).length (k : Int)) = leaves x := by
    rw [leaves_kids x]
    unfold List.flatMap
    congr 1
    exact List.map_congr_left fun k h => by rw [lvs_l ho.first hx.good.wf.pos _ k (hk k h), lvs_up (hk k h) (by simp)]
  have e2 : lvs (x ++ y) (x ++ y).length ((x.length + 0 : Nat) : Int) = (leaves y).map (x.length + ·) := by
    rw [lvs_r _ 0 ho.ne, lvs_up ho.ne (by simp), leaves_one ho]
  rw [e, List.map_cons, List.map_nil, spG, spG, kd_r, e2, List.append_nil, Nat.zero_add, List.length_map]
theorem leaves_len_flat {ss : List Sg} {l : List Nd} (h : Val ss l) : (leaves (fltL l)).length = (leaves l).length := by
  have := congrArg List.length (marks_flat h)
  unfold marks at this
  rwa [List.length_map, List.length_map] at this
theorem leaves_len_fltG {ss : List Sg} {y : List Nd} (h : Val ss y) (ho : One y) : (leaves (fltG y 0)).length = (leaves y).length := by
  have := congrArg List.length (marks_fltG h ho)
  unfold marks at this
  rwa [List.length_map, List.length_map] at this
theorem spans_leaves {ss : List Sg} : ∀ {x : List Nd} (L : List Nd), Val ss x → LeafL ss L 0 → spans (x ++ L) = spans x
  | x, [], _, _ => by rw [List.append_nil]
  | x, n :: L, hx, h => by
    have hn := h n (by simp)
    have hv := val_leaf hn
    have e : x ++ n :: L = (x ++ [n]) ++ L := by simp
    have e5 : kd [n] 0 ≠ 5 := fun hc => by
      have h1 := hn.1
      have : kd [n] 0 = n.kind := rfl
      rw [← this, hc] at h1
      exact absurd h1 (by decide)
    rw [e, spans_leaves L (hx.cat hv) fun m hm => h m (by simp [hm]), spans_cat hx hv (one_one hn.2.1), if_neg e5, List.append_nil]
/-- The rings of Flat, if no ring has too many leaves. -/
theorem spans_flat {ss : List Sg} {l : List Nd} (h : Val ss l) : (∀ s ∈ spans l, s.2 - s.1 ≤ 6) → spans (fltL l) = spans l :=
  h.groups (M := fun l => (∀ s ∈ spans l, s.2 - s.1 ≤ 6) → spans (fltL l) = spans l) (fun _ => by rw [fltL_grp (Val.nil ss)]; rfl) fun x y hx hy ho ih hs => by
    rw [spans_cat hx hy ho] at hs
    rw [flt_cat hx hy ho, spans_cat hx hy ho]
    have ih2 := ih fun s hm => hs s (List.mem_append_left _ hm)
    by_cases h5 : kd y 0 = 5
    · rw [if_pos h5] at hs ⊢
      have h6 := hs _ (List.mem_append_right _ (List.mem_singleton.2 rfl))
      simp only [] at h6
      have hl : (lvs y y.length ((0 : Nat) : Int)).length ≤ 6 := by rw [← leaves_one ho]; omega
      have e : fltG y 0 = ringN :: (lvs y y.length ((0 : Nat) : Int)).map (ndD y 1) := if_pos ⟨h5, hl⟩
      have hL := grp_lf hy ho 1 (by omega) (by omega)
      have ho2 : One (fltG y 0) := by rw [e]; exact one_ring fun n hn => (hL n hn).2.1
      have h52 : kd (fltG y 0) 0 = 5 := by rw [e]; rfl
      rw [spans_cat hx.flat (val_fltG hy ho) ho2, if_pos h52, ih2, leaves_len_flat hx, leaves_len_fltG hy ho]
    · rw [if_neg h5, List.append_nil]
      have e : fltG y 0 = (lvs y y.length ((0 : Nat) : Int)).map (ndD y 0) := if_neg fun hc => h5 hc.1
      rw [e, spans_leaves _ hx.flat (grp_lf hy ho 0 (by omega) (by omega)), ih2]
/-- Flat is read as the text is. -/
theorem alike_flat {ss : List Sg} {l : List Nd} (h : Val ss l) (h6 : ∀ s ∈ spans l, s.2 - s.1 ≤ 6) : alkR l (fltL l) := ⟨(marks_flat h).symm, (spans_flat h h6).symm⟩
end Go.Proofs.Ytddbnggficlcfaa

/- WALK: the law GroupsTwice. -/
namespace Go.Proofs.Ytddbnggficlcfaa
open Go.RowKit
theorem plnL_core {P : Int} {ss ss' : List Sg} (h : ss'.map Sg.core = ss.map Sg.core) (l : List Nd) : plnL P ss' l = plnL P ss l := by unfold plnL; rw [chkE_core h]
theorem mirN_even {ss ss' : List Sg} (h : ∀ s, evenOf ss' s = evenOf ss s) : mirN ss' = mirN ss := by funext n; unfold mirN; rw [h]
theorem mrrL_core {P : Int} {ss ss' : List Sg} (h : ss'.map Sg.core = ss.map Sg.core) (l : List Nd) : mrrL P ss' l = mrrL P ss l := by unfold mrrL; rw [chkE_core h, mirN_even (evenOf_core h)]
theorem flaL_core {P : Int} {ss ss' : List Sg} (h : ss'.map Sg.core = ss.map Sg.core) (l : List Nd) : flaL P ss' l = flaL P ss l := by unfold flaL; rw [chkE_core h]
theorem alkE_core {P : Int} {ss ss' : List Sg} (h : ss'.map Sg.core = ss.map Sg.core) (a b : List Nd) : alkE P ss' a b = alkE P ss a b := by unfold alkE; rw [chkE_core h, chkE_core h]
theorem AlkPost.get {E : Int} {R : Prop} {w : World} {e : Ending} {w' : World} (h : AlkPost E R w e w') {x : Bool} (hx : x = true ↔ E = 0 ∧ R) : e = .returned (.tuple #[.bool x, .int .i64 E]) ∧ Below w.heap.size w w' := by
  obtain ⟨⟨y, rfl, hy⟩, hb⟩ := h
  obtain rfl : y = x := Bool.eq_iff_iff.2 (hy.trans hx.symm)
  exact ⟨rfl, hb⟩
/-- A text that a function of a valid text answers: it is valid too. -/
structure Twi (P : Int) (ss : List Sg) (l L : List Nd) : Prop where
  ok : chkE P ss L = 0
  len : L.length ≤ 200
theorem Twi.of {P : Int} {ss : List Sg} {l L : List Nd} (h : chkE P ss l = 0) (hv : Val ss L) (hl : L.length ≤ l.length) : Twi P ss l L := by
  have hz := chkE_zero h
  exact ⟨of_val hz.1 (by omega) hv, by omega⟩
theorem twi_plain {P : Int} {ss : List Sg} {l : List Nd} (h : chkE P ss l = 0) : Twi P ss l (plnL P ss l) ∧ plnL P ss (plnL P ss l) = plnL P ss l := by
  have h1 : Twi P ss l (plnL P ss l) := by rw [plnL_ok h]; exact Twi.of h (val_of h).2.2.plain (plR_len _ _)
  refine ⟨h1, ?_⟩
  rw [plnL_ok h1.ok, plnL_ok h]
  exact plR_twice l
theorem twi_mirror {P : Int} {ss : List Sg} {l : List Nd} (h : chkE P ss l = 0) : Twi P ss l (mrrL P ss l) ∧ mrrL P ss (mrrL P ss l) = l := by
  have h1 : Twi P ss l (mrrL P ss l) := by rw [mrrL_ok h]; exact Twi.of h (val_of h).2.2.mirror (by simp)
  refine ⟨h1, ?_⟩
  rw [mrrL_ok h1.ok, mrrL_ok h]
  exact mir_twice ss l
theorem twi_flat {P : Int} {ss : List Sg} {l : List Nd} (h : chkE P ss l = 0) : Twi P ss l (flaL P ss l) ∧ flaL P ss (flaL P ss l) = flaL P ss l := by
  have h1 : Twi P ss l (flaL P ss l) := by rw [flaL_ok h]; exact Twi.of h (val_of h).2.2.flat (len_flat (val_of h).2.2)
  refine ⟨h1, ?_⟩
  rw [flaL_ok h1.ok, flaL_ok h]
  exact flt_twice (val_of h).2.2
theorem RngOk.mem : ∀ {rs : List (Nat × Nat × Nat)} {a n : Nat}, RngOk a rs n → ∀ r ∈ rs, r.2.1 ≤ r.2.2 ∧ r.2.2 ≤ n
  | [], _, _, _, r, h => by simp at h
  | _ :: rs, _, _, h, r, hr => by
    rcases List.mem_cons.1 hr with rfl | hr
    · exact ⟨h.2.1, RngOk.le h.2.2⟩
    · exact RngOk.mem h.2.2 r hr
theorem rng_bd {P : Int} {ss : List Sg} {l : List Nd} (h : chkE P ss l = 0) : ∀ s ∈ rngL P ss l, 0 ≤ s.1 ∧ s.1 ≤ s.2 ∧ s.2 ≤ l.length := fun s hs => by
  have hv := (val_of h).2.2
  rw [rngL_ok h] at hs
  unfold spans at hs
  obtain ⟨r, hr, rfl⟩ := List.mem_map.1 hs
  have h1 := (rings_ok hv.good.wf hv.good.deps hv.ringDep).mem r hr
  have h2 : (lvN l).length ≤ l.length := by unfold lvN; rw [List.length_map]; exact leaves_len l
  unfold spOf
  simp only []
  omega
theorem twi_alike {P : Int} {ss : List Sg} {l : List Nd} (h : chkE P ss l = 0) (h6 : ∀ s ∈ rngL P ss l, s.2 - s.1 ≤ 6) : alkE P ss l (flaL P ss l) = 0 ∧ alkR l (flaL P ss l) := by
  refine ⟨by rw [alkE_b h]; exact (twi_flat h).1.ok, ?_⟩
  rw [rngL_ok h] at h6
  rw [flaL_ok h]
  exact alike_flat (val_of h).2.2 h6
set_option maxRecDepth 100000 in
set_option maxHeartbeats 8000000 in
theorem twice_law (P : Int) (ss : List Sg) (l : List Nd) (A A2 : Option Addr) (c c2 : Nat) (hl : ss.length ≤ 9223372036854775807) (hv : ∀ s ∈ ss, s.vals.length ≤ 9223372036854775807) (w : World) (rs : Sgs w w.heap.size A ss) (rn : Nds w w.heap.size A2 l) :
    Calls Try.prog 14 #[.agg #[.int .i64 P, .slice A ss.length c, .slice A2 l.length c2]] w fun e w' => e = .returned (.bool true) ∧ Below w.heap.size w w' := by
  obtain ⟨r1, hr1⟩ : ∃ x : Bool, (x = true ↔ ¬ BigP ss l ∧ chkE P ss l = 0) := by
    by_cases h : ¬ BigP ss l ∧ chkE P ss l = 0
    · exact ⟨true, iff_of_true rfl h⟩
    · exact ⟨false, iff_of_false (by simp) h⟩
  have hsm := fun h : ¬ BigP ss l ∧ chkE P ss l = 0 => (⟨small_of h.1, h.2⟩ : (ss.length ≤ 30 ∧ l.length ≤ 210 ∧ ∀ s ∈ ss, s.vals.length ≤ 20) ∧ chkE P ss l = 0)
  obtain ⟨w1, hw1⟩ : ∃ w1, w1 = w.alloc (.cells #[.int .i64 P, .slice A ss.length c, .slice A2 l.length c2] 29) := ⟨_, rfl⟩
  have hb1 : Below w.heap.size w w1 := by rw [hw1]; exact (Below.refl _ _).alloc (Nat.le_refl _) _
  have hz1 : w.heap.size < w1.heap.size := by rw [hw1]; simp
  have c0 : w1.cell? ⟨w.heap.size, 0, none⟩ = some (.int .i64 P) := by rw [hw1]; exact cell_here rfl rfl
  have c1 : w1.cell? ⟨w.heap.size, 1, none⟩ = some (.slice A ss.length c) := by rw [hw1]; exact cell_here rfl rfl
  have c3 : w1.cell? ⟨w.heap.size, 2, none⟩ = some (.slice A2 l.length c2) := by rw [hw1]; exact cell_here rfl rfl
  have HBG := hid ((rightP_any P ss l A A2 c c2 hl hv w1 ((rs.below hb1).more hb1.size) ((rn.below hb1).more hb1.size)).mono fun e w' hb => hb.get hr1)
  have hPL := fun (s1 : ss.length ≤ 30) (s3 : ∀ s ∈ ss, s.vals.length ≤ 20) (T : List Nd) (hT : T.length ≤ 210) (ss' : List Sg) (A3 A4 : Option Addr) (c3 c4 : Nat) (W : World) (hp : Copies ss T ss' A3 A4 c3 c4 W) =>
    (by have := plainE_any P ss' T (by rw [hp.len]; omega) (hp.vals s3) (by omega) A3 A4 c3 c4 W hp.sg hp.nd; rw [chkE_core hp.core T, plnL_core hp.core T] at this; exact this.mono fun e w' hx => txt_own hx : Calls Try.prog 45 #[.agg #[.int .i64 P, .slice A3 ss'.length c3], .agg #[.slice A4 T.length c4]] W fun e w' => ∃ (A' : Option Addr) (c' : Nat), e = .returned (.tuple #[.agg #[.slice A' (plnL P ss T).length c'], .int .i64 (chkE P ss T)]) ∧ w'.ownsRow W.heap.size 78 8 (.slice A' (plnL P ss T).length c') (plnL P ss T).length (flatN (plnL P ss T)) ∧ Below W.heap.size W w')
  have hFL := fun (s1 : ss.length ≤ 30) (s3 : ∀ s ∈ ss, s.vals.length ≤ 20) (T : List Nd) (hT : T.length ≤ 210) (ss' : List Sg) (A3 A4 : Option Addr) (c3 c4 : Nat) (W : World) (hp : Copies ss T ss' A3 A4 c3 c4 W) =>
    (by have := flatE_any P ss' T (by rw [hp.len]; omega) (hp.vals s3) (by omega) A3 A4 c3 c4 W hp.sg hp.nd; rw [chkE_core hp.core T, flaL_core hp.core T] at this; exact this.mono fun e w' hx => txt_own hx : Calls Try.prog 52 #[.agg #[.int .i64 P, .slice A3 ss'.length c3], .agg #[.slice A4 T.length c4]] W fun e w' => ∃ (A' : Option Addr) (c' : Nat), e = .returned (.tuple #[.agg #[.slice A' (flaL P ss T).length c'], .int .i64 (chkE P ss T)]) ∧ w'.ownsRow W.heap.size 78 8 (.slice A' (flaL P ss T).length c') (flaL P ss T).length (flatN (flaL P ss T)) ∧ Below W.heap.size W w')
  have hML := fun (s1 : ss.length ≤ 30) (s3 : ∀ s ∈ ss, s.vals.length ≤ 20) (T : List Nd) (hT : T.length ≤ 210) (ss' : List Sg) (A3 A4 : Option Addr) (c3 c4 : Nat) (W : World) (hp : Copies ss T ss' A3 A4 c3 c4 W) =>
    (by have := mirrorE_any P ss' T (by rw [hp.len]; omega) (hp.vals s3) (by omega) A3 A4 c3 c4 W hp.sg hp.nd; rw [chkE_core hp.core T, mrrL_core hp.core T] at this; exact this.mono fun e w' hx => txt_own hx : Calls Try.prog 47 #[.agg #[.int .i64 P, .slice A3 ss'.length c3], .agg #[.slice A4 T.length c4]] W fun e w' => ∃ (A' : Option Addr) (c' : Nat), e = .returned (.tuple #[.agg #[.slice A' (mrrL P ss T).length c'], .int .i64 (chkE P ss T)]) ∧ w'.ownsRow W.heap.size 78 8 (.slice A' (mrrL P ss T).length c') (mrrL P ss T).length (flatN (mrrL P ss T)) ∧ Below W.heap.size W w')
  have hAK := fun (s1 : ss.length ≤ 30) (s3 : ∀ s ∈ ss, s.vals.length ≤ 20) (hl : l.length ≤ 210) (T : List Nd) (hT : T.length ≤ 210) (hE : alkE P ss l T = 0 ∧ alkR l T) (ss' : List Sg) (A3 A4 A6 : Option Addr) (c3 c4 c6 : Nat) (W : World) (hp : Copies ss l ss' A3 A4 c3 c4 W) (rt : Nds W W.heap.size A6 T) =>
    (by have := alikeE_any P ss' l T (by rw [hp.len]; omega) (hp.vals s3) (by omega) (by omega) A3 A4 A6 c3 c4 c6 W hp.sg hp.nd rt; rw [alkE_core hp.core l T, hE.1] at this; exact this.mono fun e w' h => h.get (x := true) (iff_of_true rfl ⟨rfl, hE.2⟩) : Calls Try.prog 40 #[.agg #[.int .i64 P, .slice A3 ss'.length c3], .agg #[.slice A4 l.length c4], .agg #[.slice A6 T.length c6]] W fun e w' => e = .returned (.tuple #[.bool true, .int .i64 0]) ∧ Below W.heap.size W w')
  have hRG := fun (s1 : ss.length ≤ 30) (s2 : l.length ≤ 210) (s3 : ∀ s ∈ ss, s.vals.length ≤ 20) (hck : chkE P ss l = 0) (W : World) (h : Below w1.heap.size w1 W) =>
    (by have := refRings_any P ss l (by omega) (fun s hs => by have := s3 s hs; omega) (by omega) A A2 c c2 W ((rs.below (hb1.trans (h.mono hb1.size))).more (Nat.le_trans hb1.size h.size)) ((rn.below (hb1.trans (h.mono hb1.size))).more (Nat.le_trans hb1.size h.size))
        rw [hck] at this
        exact this.mono fun e w' hx => prs_out hx : Calls Try.prog 33 #[.agg #[.int .i64 P, .slice A ss.length c], .agg #[.slice A2 l.length c2]] W fun e w' => ∃ (A' : Option Addr) (c' : Nat), e = .returned (.tuple #[.slice A' (rngL P ss l).length c', .int .i64 0]) ∧ Prs w' w'.heap.size A' (rngL P ss l) ∧ Below W.heap.size W w')
  have hTP := fun (h : chkE P ss l = 0) => twi_plain h
  have hTF := fun (h : chkE P ss l = 0) => twi_flat h
  have hTM := fun (h : chkE P ss l = 0) => twi_mirror h
  have hTA := fun (h : chkE P ss l = 0) (h6 : ∀ s ∈ rngL P ss l, s.2 - s.1 ≤ 6) => twi_alike h h6
  have hbd := fun (h : chkE P ss l = 0) => rng_bd h
  have hrl := rngL_len (P := P) (ss := ss) (l := l)
  obtain ⟨L2, hL2⟩ : ∃ L, L = plnL P ss l := ⟨_, rfl⟩
  obtain ⟨L3, hL3⟩ : ∃ L, L = flaL P ss l := ⟨_, rfl⟩
  obtain ⟨L4, hL4⟩ : ∃ L, L = mrrL P ss l := ⟨_, rfl⟩
  rw [← hL2] at hTP
  rw [← hL3] at hTF hTA
  rw [← hL4] at hTM
  generalize rngL P ss l = RL at hRG hTA hrl hbd
  have hrs := rs; have hrn := rn
  obtain ⟨N, hN⟩ : ∃ N, N = ss.length := ⟨_, rfl⟩
  obtain ⟨n, hn⟩ : ∃ n, n = l.length := ⟨_, rfl⟩
  rw [← hN] at c1 hw1 HBG ⊢
  rw [← hn] at c3 hw1 HBG ⊢
  have HW1 := hid hw1; have HB1 := hid hb1; have HSM := hid hsm; have HR1 := hid hr1; have HNN := hid hN; have HNl := hid hn; have HRS := hid hrs; have HRN := hid hrn
  have HPL := hid hPL; have HFL := hid hFL; have HML := hid hML; have HAK := hid hAK; have HRG := hid hRG; have HTP := hid hTP; have HTF := hid hTF; have HTM := hid hTM; have HTA := hid hTA; have HRLN := hid hrl; have HBDR := hid hbd; have HL2 := hid hL2; have HL3 := hid hL3; have HL4 := hid hL4
  have HRA := hid fun (W : World) (h : Below w1.heap.size w1 W) => (rn.below (hb1.trans (h.mono hb1.size))).more (Nat.le_trans hb1.size h.size)
  clear hPL hFL hML hAK hRG hTP hTF hTM hTA hrl hbd hL2 hL3 hL4
  have HW : Hid (∀ wr, Below w1.heap.size w1 wr → Below w.heap.size w wr) := fun wr h => hb1.trans (h.mono (by omega))
  have HWK := hid fun (W : World) => works_any W
  have HC0 := hid fun (wr : World) (h : Below w1.heap.size w1 wr) => (h.cell (p := ⟨w.heap.size, 0, none⟩) hz1).trans c0
  have HC1 := hid fun (wr : World) (h : Below w1.heap.size w1 wr) => (h.cell (p := ⟨w.heap.size, 1, none⟩) hz1).trans c1
  have HC3 := hid fun (wr : World) (h : Below w1.heap.size w1 wr) => (h.cell (p := ⟨w.heap.size, 2, none⟩) hz1).trans c3
  clear hw1 rs rn hsm hr1 hN hn hv hl hb1 hrs hrn
  go_enter Try.func14, Try.ntmps14
  go_upto_region 1 with (fail)
  rw [← HW1.out]
  clear HW1
  obtain ⟨B0, hB0⟩ : ∃ B0, B0 = w.heap.size := ⟨_, rfl⟩
  rw [← hB0] at c0 c1 c3 hz1 HC0 HC1 HC3 ⊢
  clear hB0
  cases r1 with
  | false =>
    go_wp2_with (first | (go_at_call 49; refine HBG.out.mono ?_; rintro e w2 ⟨rfl, hb2⟩; have HB2 := hid hb2; clear hb2 c0 c1 c3) | (go_at_call 16; refine (HWK.out _).mono ?_; rintro e w3 ⟨rfl, hb3⟩; have HB3 := hid (bnext HB2.out hb3); clear hb3))
    go_ret
    exact ⟨rfl, HW.out _ HB3.out⟩
  | true =>
    obtain ⟨⟨s1, s2, s3⟩, hck⟩ := HSM.out (HR1.out.1 (by simp))
    have HLI := hid fun (W : World) (h : Below w1.heap.size w1 W) => list_at (P := P) (c := c) (V := .slice A2 n c2) s1 s3 (HW.out _ (Below.refl _ _)) HRS.out W h
    have HTX := hid fun (W : World) (h : Below w1.heap.size w1 W) => text_at (P := P) (A := A) (N := N) (c := c) (c2 := c2) s2 (HW.out _ (Below.refl _ _)) HRN.out W h
    rw [← HNN.out] at HLI
    rw [← HNl.out] at HTX
    obtain ⟨hp1, hp2⟩ := HTP.out hck; obtain ⟨hf1, hf2⟩ := HTF.out hck; obtain ⟨hm1, hm2⟩ := HTM.out hck
    have hs2 : L2.length ≤ 210 := Nat.le_trans hp1.len (by omega)
    have hs3 : L3.length ≤ 210 := Nat.le_trans hf1.len (by omega)
    have hs4 : L4.length ≤ 210 := Nat.le_trans hm1.len (by omega)
    have HF1 := hid fun (ss' : List Sg) (A3 A4 : Option Addr) (c3 c4 : Nat) (W : World) (hp : Copies ss l ss' A3 A4 c3 c4 W) (_ : Below w1.heap.size w1 W) => HPL.out s1 s3 l s2 ss' A3 A4 c3 c4 W hp
    rw [← HL2.out, hck] at HF1
    have HF2 := hid fun (ss' : List Sg) (A3 A4 : Option Addr) (c3 c4 : Nat) (W : World) (hp : Copies ss L2 ss' A3 A4 c3 c4 W) (_ : Below w1.heap.size w1 W) => HPL.out s1 s3 L2 hs2 ss' A3 A4 c3 c4 W hp
    rw [hp2, hp1.ok] at HF2
    have HF3 := hid fun (ss' : List Sg) (A3 A4 : Option Addr) (c3 c4 : Nat) (W : World) (hp : Copies ss l ss' A3 A4 c3 c4 W) (_ : Below w1.heap.size w1 W) => HFL.out s1 s3 l s2 ss' A3 A4 c3 c4 W hp
    rw [← HL3.out, hck] at HF3
    have HF4 := hid fun (ss' : List Sg) (A3 A4 : Option Addr) (c3 c4 : Nat) (W : World) (hp : Copies ss L3 ss' A3 A4 c3 c4 W) (_ : Below w1.heap.size w1 W) => HFL.out s1 s3 L3 hs3 ss' A3 A4 c3 c4 W hp
    rw [hf2, hf1.ok] at HF4
    have HF5 := hid fun (ss' : List Sg) (A3 A4 : Option Addr) (c3 c4 : Nat) (W : World) (hp : Copies ss l ss' A3 A4 c3 c4 W) (_ : Below w1.heap.size w1 W) => HML.out s1 s3 l s2 ss' A3 A4 c3 c4 W hp
    rw [← HL4.out, hck] at HF5
    have HF6 := hid fun (ss' : List Sg) (A3 A4 : Option Addr) (c3 c4 : Nat) (W : World) (hp : Copies ss L4 ss' A3 A4 c3 c4 W) (_ : Below w1.heap.size w1 W) => HML.out s1 s3 L4 hs4 ss' A3 A4 c3 c4 W hp
    rw [hm2, hm1.ok] at HF6
    have HAL := hid fun (h6 : ∀ s ∈ RL, s.2 - s.1 ≤ 6) => HAK.out s1 s3 s2 L3 hs3 (HTA.out hck h6)
    replace HRG := hid (HRG.out s1 s2 s3 hck); replace HBDR := hid (HBDR.out hck)
    rw [← HNN.out, ← HNl.out] at HRG
    have hrl := HRLN.out
    have hcp := fun (L : List Nd) (hL : L.length ≤ 210) (A5 : Option Addr) (c5 : Nat) (W : World) (r : Nds W W.heap.size A5 L) => copyText_any L A5 c5 (by omega) W r
    have HCP2 := hid (hcp L2 hs2); have HCP3 := hid (hcp L3 hs3); have HCP4 := hid (hcp L4 hs4)
    obtain ⟨n2, hn2⟩ : ∃ n1, n1 = L2.length := ⟨_, rfl⟩
    obtain ⟨n3, hn3⟩ : ∃ n1, n1 = L3.length := ⟨_, rfl⟩
    obtain ⟨n4, hn4⟩ : ∃ n1, n1 = L4.length := ⟨_, rfl⟩
    obtain ⟨nr, hnr⟩ : ∃ n1, n1 = RL.length := ⟨_, rfl⟩
    rw [← hn2] at HF1 HF2 HCP2 hs2
    rw [← hn3] at HF3 HF4 HCP3 HAL hs3
    rw [← hn4] at HF5 HF6 HCP4 hs4
    rw [← HNl.out] at HF1 HF3 HF5 HF6 HAL
    rw [← hnr] at HRG hrl
    have HN2 := hid hn2; have HN3 := hid hn3; have HN4 := hid hn4; have HNR := hid hnr; have HCK0 := hid hck
    have hnr2 : nr ≤ 210 := by omega
    have hnn : n ≤ 210 := by rw [HNl.out]; exact s2
    clear hnr hn2 hn3 hn4 hck hp1 hp2 hf1 hf2 hm1 hm2 hcp hrl HPL HFL HML HAK HTP HTF HTM HTA
    go_upto_region 3 with (first | (go_at_call 49; refine HBG.out.mono ?_; rintro e w2 ⟨rfl, hb2⟩; have HB2 := hid hb2; clear hb2 c0 c1 c3))
    go_cut [3, 4] (fun s3 s4 wx => ∃ (b : Nat) (A' : Option Addr) (c' : Nat), s3 = .pointer (some ⟨b, 0, none⟩) ∧ s4 = .int .i64 0 ∧ Hid (Bx wx b (.slice A' n2 c')) ∧ Hid (Nds wx wx.heap.size A' L2) ∧ Hid (Below w2.heap.size w2 wx))
    case first =>
     as_aux_lemma =>
      have q0 := HC0.out w2 HB2.out; have q1 := HC1.out w2 HB2.out; have q3 := HC3.out w2 HB2.out
      have hsb : w1.heap.size ≤ w2.heap.size := HB2.out.size
      go_region_held3 (fun w' => w'.cell? ⟨B0, 0, none⟩ = some (.int .i64 P) ∧ w'.cell? ⟨B0, 1, none⟩ = some (.slice A N c) ∧ w'.cell? ⟨B0, 2, none⟩ = some (.slice A2 n c2)) (first | exact ⟨q0, q1, q3⟩ | exact ⟨HC0.out _ (bnext HB2.out (by first | exact HX32.out | exact bal HX32.out _ | exact HX31.out | exact bal HX31.out _ | exact HX30.out | exact bal HX30.out _ | exact (Below.refl _ _).drew | exact bal (Below.refl _ _).drew _ | exact (bal (Below.refl _ _) _).drew | exact Below.refl _ _ | exact bal (Below.refl _ _) _ | exact bst HX32.out HX31.out.size _ | exact bst HX32.out HX30.out.size _ | exact bst HX32.out HX32.out.size _ | exact bst HX32.out (Nat.le_refl _) _)), HC1.out _ (bnext HB2.out (by first | exact HX32.out | exact bal HX32.out _ | exact HX31.out | exact bal HX31.out _ | exact HX30.out | exact bal HX30.out _ | exact (Below.refl _ _).drew | exact bal (Below.refl _ _).drew _ | exact (bal (Below.refl _ _) _).drew | exact Below.refl _ _ | exact bal (Below.refl _ _) _ | exact bst HX32.out HX31.out.size _ | exact bst HX32.out HX30.out.size _ | exact bst HX32.out HX32.out.size _ | exact bst HX32.out (Nat.le_refl _) _)), HC3.out _ (bnext HB2.out (by first | exact HX32.out | exact bal HX32.out _ | exact HX31.out | exact bal HX31.out _ | exact HX30.out | exact bal HX30.out _ | exact (Below.refl _ _).drew | exact bal (Below.refl _ _).drew _ | exact (bal (Below.refl _ _) _).drew | exact Below.refl _ _ | exact bal (Below.refl _ _) _ | exact bst HX32.out HX31.out.size _ | exact bst HX32.out HX30.out.size _ | exact bst HX32.out HX32.out.size _ | exact bst HX32.out (Nat.le_refl _) _))⟩ | fail) (first | (go_at_call 17; refine (HLI.out _ (bnext HB2.out (by first | exact HX32.out | exact bal HX32.out _ | exact HX31.out | exact bal HX31.out _ | exact HX30.out | exact bal HX30.out _ | exact (Below.refl _ _).drew | exact bal (Below.refl _ _).drew _ | exact (bal (Below.refl _ _) _).drew | exact Below.refl _ _ | exact bal (Below.refl _ _) _ | exact bst HX32.out HX31.out.size _ | exact bst HX32.out HX30.out.size _ | exact bst HX32.out HX32.out.size _ | exact bst HX32.out (Nat.le_refl _) _))).mono ?_; rintro e w30 ⟨A30, c30, ss30, rfl, hl30, hb30⟩; have HL30 := hid hl30; have HX30 := hid (show Below w2.heap.size w2 w30 from bnext (by first | exact HX32.out | exact bal HX32.out _ | exact HX31.out | exact bal HX31.out _ | exact HX30.out | exact bal HX30.out _ | exact (Below.refl _ _).drew | exact bal (Below.refl _ _).drew _ | exact (bal (Below.refl _ _) _).drew | exact Below.refl _ _ | exact bal (Below.refl _ _) _ | exact bst HX32.out HX31.out.size _ | exact bst HX32.out HX30.out.size _ | exact bst HX32.out HX32.out.size _ | exact bst HX32.out (Nat.le_refl _) _) hb30); (first | (have bf := hid (Bxf.kept bf.out hb30); skip) | (have bf := hid (Bxf.kept (Bxf.new (w := w2) (b := w2.heap.size) rfl) hb30)) | (have bf := hid (Bxf.kept (Bxf.new (w := w2.drew) (b := w2.heap.size) rfl) hb30)) | skip); clear hl30 hb30) | (go_at_call 18; refine (HTX.out _ (bnext HB2.out (by first | exact HX32.out | exact bal HX32.out _ | exact HX31.out | exact bal HX31.out _ | exact HX30.out | exact bal HX30.out _ | exact (Below.refl _ _).drew | exact bal (Below.refl _ _).drew _ | exact (bal (Below.refl _ _) _).drew | exact Below.refl _ _ | exact bal (Below.refl _ _) _ | exact bst HX32.out HX31.out.size _ | exact bst HX32.out HX30.out.size _ | exact bst HX32.out HX32.out.size _ | exact bst HX32.out (Nat.le_refl _) _))).mono ?_; rintro e w31 ⟨A31, c31, rfl, ho31, hb31⟩; have HP31 := hid (Copies.mk' (c4 := c31) HL30.out (bnext (by first | exact Below.refl _ _ | exact bal (Below.refl _ _) _) hb31) (by rw [← HNl.out]; exact ho31)); have HX31 := hid (show Below w2.heap.size w2 w31 from bnext (by first | exact HX32.out | exact bal HX32.out _ | exact HX31.out | exact bal HX31.out _ | exact HX30.out | exact bal HX30.out _ | exact (Below.refl _ _).drew | exact bal (Below.refl _ _).drew _ | exact (bal (Below.refl _ _) _).drew | exact Below.refl _ _ | exact bal (Below.refl _ _) _ | exact bst HX32.out HX31.out.size _ | exact bst HX32.out HX30.out.size _ | exact bst HX32.out HX32.out.size _ | exact bst HX32.out (Nat.le_refl _) _) hb31); (first | (have bf := hid (Bxf.kept bf.out hb31); skip) | (have bf := hid (Bxf.kept (Bxf.new (w := w30) (b := w30.heap.size) rfl) hb31)) | (have bf := hid (Bxf.kept (Bxf.new (w := w30.drew) (b := w30.heap.size) rfl) hb31)) | skip); clear ho31 hb31) | (go_at_call 45; refine (HF1.out _ _ _ _ _ _ (HP31.out.below (by first | exact Below.refl _ _ | exact bal (Below.refl _ _) _)) (bnext HB2.out (by first | exact HX32.out | exact bal HX32.out _ | exact HX31.out | exact bal HX31.out _ | exact HX30.out | exact bal HX30.out _ | exact (Below.refl _ _).drew | exact bal (Below.refl _ _).drew _ | exact (bal (Below.refl _ _) _).drew | exact Below.refl _ _ | exact bal (Below.refl _ _) _ | exact bst HX32.out HX31.out.size _ | exact bst HX32.out HX30.out.size _ | exact bst HX32.out HX32.out.size _ | exact bst HX32.out (Nat.le_refl _) _))).mono ?_; rintro e w32 ⟨A32, c32, rfl, hr32, hb32⟩; have HR32 := hid (show Nds w32 w32.heap.size A32 L2 from Reads.of_own (by rw [← HN2.out]; exact hr32)); (first | (have bo := hid (Bxf.own bf.out hb32 hr32 HN2.out); skip) | (have bo := hid (Bxf.own (Bxf.new (w := w31) (b := w31.heap.size) rfl) hb32 hr32 HN2.out)) | skip); have HX32 := hid (show Below w2.heap.size w2 w32 from bnext (by first | exact HX32.out | exact bal HX32.out _ | exact HX31.out | exact bal HX31.out _ | exact HX30.out | exact bal HX30.out _ | exact (Below.refl _ _).drew | exact bal (Below.refl _ _).drew _ | exact (bal (Below.refl _ _) _).drew | exact Below.refl _ _ | exact bal (Below.refl _ _) _ | exact bst HX32.out HX31.out.size _ | exact bst HX32.out HX30.out.size _ | exact bst HX32.out HX32.out.size _ | exact bst HX32.out (Nat.le_refl _) _) hb32); (first | (have bf := hid (Bxf.kept bf.out hb32); skip) | (have bf := hid (Bxf.kept (Bxf.new (w := w31) (b := w31.heap.size) rfl) hb32)) | (have bf := hid (Bxf.kept (Bxf.new (w := w31.drew) (b := w31.heap.size) rfl) hb32)) | skip); (first | (have bfc := bf.out.cell; have bff := bf.out.free) | skip); clear hr32 hb32))
      all_goals
        go_wp2_with fail
        go_meet
        first
          | exact ⟨_, _, _, rfl, rfl, hid bo.out.1, hid bo.out.2, hid (by first | exact HX32.out | exact bal HX32.out _ | exact HX31.out | exact bal HX31.out _ | exact HX30.out | exact bal HX30.out _ | exact (Below.refl _ _).drew | exact bal (Below.refl _ _).drew _ | exact (bal (Below.refl _ _) _).drew | exact Below.refl _ _ | exact bal (Below.refl _ _) _ | exact bst HX32.out HX31.out.size _ | exact bst HX32.out HX30.out.size _ | exact bst HX32.out HX32.out.size _ | exact bst HX32.out (Nat.le_refl _) _)⟩
          | exact ⟨_, _, _, rfl, rfl, hid (Bx.new rfl), hid (rdn HR32.out (bal (Below.refl _ _) _)), hid (bal HX32.out _)⟩
    obtain ⟨b3, A3, c3, rfl, rfl, BX3, HR3, HX3⟩ := hcut
    obtain ⟨w3, rfl⟩ : ∃ W, W = wc := ⟨_, rfl⟩
    have HB3 := hid (bnext HB2.out HX3.out)
    clear HX3
    go_upto_region 4 with (fail)
    go_cut [5, 6] (fun s3 s4 wx => ∃ (b : Nat) (A' : Option Addr) (c' : Nat), s3 = .pointer (some ⟨b, 0, none⟩) ∧ s4 = .int .i64 0 ∧ Hid (Bx wx b (.slice A' n2 c')) ∧ Hid (Nds wx wx.heap.size A' L2) ∧ Hid (Below w3.heap.size w3 wx))
    case first =>
     as_aux_lemma =>
      have q0 := HC0.out w3 HB3.out; have q1 := HC1.out w3 HB3.out; have q3 := HC3.out w3 HB3.out; have q4 := BX3.out.cell
      have hsb : w1.heap.size ≤ w3.heap.size := HB3.out.size
      go_region_held3 (fun w' => w'.cell? ⟨B0, 0, none⟩ = some (.int .i64 P) ∧ w'.cell? ⟨B0, 1, none⟩ = some (.slice A N c) ∧ w'.cell? ⟨B0, 2, none⟩ = some (.slice A2 n c2) ∧ w'.cell? ⟨b3, 0, none⟩ = some (.slice A3 n2 c3)) (first | exact ⟨q0, q1, q3, q4⟩ | exact ⟨HC0.out _ (bnext HB3.out (by first | exact HX42.out | exact bal HX42.out _ | exact HX41.out | exact bal HX41.out _ | exact HX40.out | exact bal HX40.out _ | exact (Below.refl _ _).drew | exact bal (Below.refl _ _).drew _ | exact (bal (Below.refl _ _) _).drew | exact Below.refl _ _ | exact bal (Below.refl _ _) _ | exact bst HX42.out HX41.out.size _ | exact bst HX42.out HX40.out.size _ | exact bst HX42.out HX42.out.size _ | exact bst HX42.out (Nat.le_refl _) _)), HC1.out _ (bnext HB3.out (by first | exact HX42.out | exact bal HX42.out _ | exact HX41.out | exact bal HX41.out _ | exact HX40.out | exact bal HX40.out _ | exact (Below.refl _ _).drew | exact bal (Below.refl _ _).drew _ | exact (bal (Below.refl _ _) _).drew | exact Below.refl _ _ | exact bal (Below.refl _ _) _ | exact bst HX42.out HX41.out.size _ | exact bst HX42.out HX40.out.size _ | exact bst HX42.out HX42.out.size _ | exact bst HX42.out (Nat.le_refl _) _)), HC3.out _ (bnext HB3.out (by first | exact HX42.out | exact bal HX42.out _ | exact HX41.out | exact bal HX41.out _ | exact HX40.out | exact bal HX40.out _ | exact (Below.refl _ _).drew | exact bal (Below.refl _ _).drew _ | exact (bal (Below.refl _ _) _).drew | exact Below.refl _ _ | exact bal (Below.refl _ _) _ | exact bst HX42.out HX41.out.size _ | exact bst HX42.out HX40.out.size _ | exact bst HX42.out HX42.out.size _ | exact bst HX42.out (Nat.le_refl _) _)), (bxn BX3.out (by first | exact HX42.out | exact bal HX42.out _ | exact HX41.out | exact bal HX41.out _ | exact HX40.out | exact bal HX40.out _ | exact (Below.refl _ _).drew | exact bal (Below.refl _ _).drew _ | exact (bal (Below.refl _ _) _).drew | exact Below.refl _ _ | exact bal (Below.refl _ _) _ | exact bst HX42.out HX41.out.size _ | exact bst HX42.out HX40.out.size _ | exact bst HX42.out HX42.out.size _ | exact bst HX42.out (Nat.le_refl _) _)).cell⟩ | fail) (first | (go_at_call 17; refine (HLI.out _ (bnext HB3.out (by first | exact HX42.out | exact bal HX42.out _ | exact HX41.out | exact bal HX41.out _ | exact HX40.out | exact bal HX40.out _ | exact (Below.refl _ _).drew | exact bal (Below.refl _ _).drew _ | exact (bal (Below.refl _ _) _).drew | exact Below.refl _ _ | exact bal (Below.refl _ _) _ | exact bst HX42.out HX41.out.size _ | exact bst HX42.out HX40.out.size _ | exact bst HX42.out HX42.out.size _ | exact bst HX42.out (Nat.le_refl _) _))).mono ?_; rintro e w40 ⟨A40, c40, ss40, rfl, hl40, hb40⟩; have HL40 := hid hl40; have HX40 := hid (show Below w3.heap.size w3 w40 from bnext (by first | exact HX42.out | exact bal HX42.out _ | exact HX41.out | exact bal HX41.out _ | exact HX40.out | exact bal HX40.out _ | exact (Below.refl _ _).drew | exact bal (Below.refl _ _).drew _ | exact (bal (Below.refl _ _) _).drew | exact Below.refl _ _ | exact bal (Below.refl _ _) _ | exact bst HX42.out HX41.out.size _ | exact bst HX42.out HX40.out.size _ | exact bst HX42.out HX42.out.size _ | exact bst HX42.out (Nat.le_refl _) _) hb40); (first | (have bf := hid (Bxf.kept bf.out hb40); skip) | (have bf := hid (Bxf.kept (Bxf.new (w := w3) (b := w3.heap.size) rfl) hb40)) | (have bf := hid (Bxf.kept (Bxf.new (w := w3.drew) (b := w3.heap.size) rfl) hb40)) | skip); clear hl40 hb40) | (go_at_call 38; refine (HCP2.out A3 c3 _ (rdn HR3.out (by first | exact HX42.out | exact bal HX42.out _ | exact HX41.out | exact bal HX41.out _ | exact HX40.out | exact bal HX40.out _ | exact (Below.refl _ _).drew | exact bal (Below.refl _ _).drew _ | exact (bal (Below.refl _ _) _).drew | exact Below.refl _ _ | exact bal (Below.refl _ _) _ | exact bst HX42.out HX41.out.size _ | exact bst HX42.out HX40.out.size _ | exact bst HX42.out HX42.out.size _ | exact bst HX42.out (Nat.le_refl _) _))).mono ?_; rintro e w41 ⟨A41, c41, rfl, ho41, hb41⟩; have HP41 := hid (Copies.mk' (c4 := c41) HL40.out (bnext (by first | exact Below.refl _ _ | exact bal (Below.refl _ _) _) hb41) (by rw [← HN2.out]; exact ho41)); have HX41 := hid (show Below w3.heap.size w3 w41 from bnext (by first | exact HX42.out | exact bal HX42.out _ | exact HX41.out | exact bal HX41.out _ | exact HX40.out | exact bal HX40.out _ | exact (Below.refl _ _).drew | exact bal (Below.refl _ _).drew _ | exact (bal (Below.refl _ _) _).drew | exact Below.refl _ _ | exact bal (Below.refl _ _) _ | exact bst HX42.out HX41.out.size _ | exact bst HX42.out HX40.out.size _ | exact bst HX42.out HX42.out.size _ | exact bst HX42.out (Nat.le_refl _) _) hb41); (first | (have bf := hid (Bxf.kept bf.out hb41); skip) | (have bf := hid (Bxf.kept (Bxf.new (w := w40) (b := w40.heap.size) rfl) hb41)) | (have bf := hid (Bxf.kept (Bxf.new (w := w40.drew) (b := w40.heap.size) rfl) hb41)) | skip); clear ho41 hb41) | (go_at_call 45; refine (HF2.out _ _ _ _ _ _ (HP41.out.below (by first | exact Below.refl _ _ | exact bal (Below.refl _ _) _)) (bnext HB3.out (by first | exact HX42.out | exact bal HX42.out _ | exact HX41.out | exact bal HX41.out _ | exact HX40.out | exact bal HX40.out _ | exact (Below.refl _ _).drew | exact bal (Below.refl _ _).drew _ | exact (bal (Below.refl _ _) _).drew | exact Below.refl _ _ | exact bal (Below.refl _ _) _ | exact bst HX42.out HX41.out.size _ | exact bst HX42.out HX40.out.size _ | exact bst HX42.out HX42.out.size _ | exact bst HX42.out (Nat.le_refl _) _))).mono ?_; rintro e w42 ⟨A42, c42, rfl, hr42, hb42⟩; have HR42 := hid (show Nds w42 w42.heap.size A42 L2 from Reads.of_own (by rw [← HN2.out]; exact hr42)); (first | (have bo := hid (Bxf.own bf.out hb42 hr42 HN2.out); skip) | (have bo := hid (Bxf.own (Bxf.new (w := w41) (b := w41.heap.size) rfl) hb42 hr42 HN2.out)) | skip); have HX42 := hid (show Below w3.heap.size w3 w42 from bnext (by first | exact HX42.out | exact bal HX42.out _ | exact HX41.out | exact bal HX41.out _ | exact HX40.out | exact bal HX40.out _ | exact (Below.refl _ _).drew | exact bal (Below.refl _ _).drew _ | exact (bal (Below.refl _ _) _).drew | exact Below.refl _ _ | exact bal (Below.refl _ _) _ | exact bst HX42.out HX41.out.size _ | exact bst HX42.out HX40.out.size _ | exact bst HX42.out HX42.out.size _ | exact bst HX42.out (Nat.le_refl _) _) hb42); (first | (have bf := hid (Bxf.kept bf.out hb42); skip) | (have bf := hid (Bxf.kept (Bxf.new (w := w41) (b := w41.heap.size) rfl) hb42)) | (have bf := hid (Bxf.kept (Bxf.new (w := w41.drew) (b := w41.heap.size) rfl) hb42)) | skip); (first | (have bfc := bf.out.cell; have bff := bf.out.free) | skip); clear hr42 hb42))
      all_goals
        go_wp2_with fail
        go_meet
        first
          | exact ⟨_, _, _, rfl, rfl, hid bo.out.1, hid bo.out.2, hid (by first | exact HX42.out | exact bal HX42.out _ | exact HX41.out | exact bal HX41.out _ | exact HX40.out | exact bal HX40.out _ | exact (Below.refl _ _).drew | exact bal (Below.refl _ _).drew _ | exact (bal (Below.refl _ _) _).drew | exact Below.refl _ _ | exact bal (Below.refl _ _) _ | exact bst HX42.out HX41.out.size _ | exact bst HX42.out HX40.out.size _ | exact bst HX42.out HX42.out.size _ | exact bst HX42.out (Nat.le_refl _) _)⟩
          | exact ⟨_, _, _, rfl, rfl, hid (Bx.new rfl), hid (rdn HR42.out (bal (Below.refl _ _) _)), hid (bal HX42.out _)⟩
    obtain ⟨b4, A4, c4, rfl, rfl, BX4, HR4, HX4⟩ := hcut
    obtain ⟨w4, rfl⟩ : ∃ W, W = wc := ⟨_, rfl⟩
    have HB4 := hid (bnext HB3.out HX4.out)
    replace HR3 := hid (rdn HR3.out HX4.out)
    replace BX3 := hid (bxn BX3.out HX4.out)
    clear HX4
    go_upto_region 5 with (fail)
    go_cut [7, 8] (fun s3 s4 wx => ∃ (b : Nat) (A' : Option Addr) (c' : Nat), s3 = .pointer (some ⟨b, 0, none⟩) ∧ s4 = .int .i64 0 ∧ Hid (Bx wx b (.slice A' n3 c')) ∧ Hid (Nds wx wx.heap.size A' L3) ∧ Hid (Below w4.heap.size w4 wx))
    case first =>
     as_aux_lemma =>
      have q0 := HC0.out w4 HB4.out; have q1 := HC1.out w4 HB4.out; have q3 := HC3.out w4 HB4.out
      have hsb : w1.heap.size ≤ w4.heap.size := HB4.out.size
      go_region_held3 (fun w' => w'.cell? ⟨B0, 0, none⟩ = some (.int .i64 P) ∧ w'.cell? ⟨B0, 1, none⟩ = some (.slice A N c) ∧ w'.cell? ⟨B0, 2, none⟩ = some (.slice A2 n c2)) (first | exact ⟨q0, q1, q3⟩ | exact ⟨HC0.out _ (bnext HB4.out (by first | exact HX52.out | exact bal HX52.out _ | exact HX51.out | exact bal HX51.out _ | exact HX50.out | exact bal HX50.out _ | exact (Below.refl _ _).drew | exact bal (Below.refl _ _).drew _ | exact (bal (Below.refl _ _) _).drew | exact Below.refl _ _ | exact bal (Below.refl _ _) _ | exact bst HX52.out HX51.out.size _ | exact bst HX52.out HX50.out.size _ | exact bst HX52.out HX52.out.size _ | exact bst HX52.out (Nat.le_refl _) _)), HC1.out _ (bnext HB4.out (by first | exact HX52.out | exact bal HX52.out _ | exact HX51.out | exact bal HX51.out _ | exact HX50.out | exact bal HX50.out _ | exact (Below.refl _ _).drew | exact bal (Below.refl _ _).drew _ | exact (bal (Below.refl _ _) _).drew | exact Below.refl _ _ | exact bal (Below.refl _ _) _ | exact bst HX52.out HX51.out.size _ | exact bst HX52.out HX50.out.size _ | exact bst HX52.out HX52.out.size _ | exact bst HX52.out (Nat.le_refl _) _)), HC3.out _ (bnext HB4.out (by first | exact HX52.out | exact bal HX52.out _ | exact HX51.out | exact bal HX51.out _ | exact HX50.out | exact bal HX50.out _ | exact (Below.refl _ _).drew | exact bal (Below.refl _ _).drew _ | exact (bal (Below.refl _ _) _).drew | exact Below.refl _ _ | exact bal (Below.refl _ _) _ | exact bst HX52.out HX51.out.size _ | exact bst HX52.out HX50.out.size _ | exact bst HX52.out HX52.out.size _ | exact bst HX52.out (Nat.le_refl _) _))⟩ | fail) (first | (go_at_call 17; refine (HLI.out _ (bnext HB4.out (by first | exact HX52.out | exact bal HX52.out _ | exact HX51.out | exact bal HX51.out _ | exact HX50.out | exact bal HX50.out _ | exact (Below.refl _ _).drew | exact bal (Below.refl _ _).drew _ | exact (bal (Below.refl _ _) _).drew | exact Below.refl _ _ | exact bal (Below.refl _ _) _ | exact bst HX52.out HX51.out.size _ | exact bst HX52.out HX50.out.size _ | exact bst HX52.out HX52.out.size _ | exact bst HX52.out (Nat.le_refl _) _))).mono ?_; rintro e w50 ⟨A50, c50, ss50, rfl, hl50, hb50⟩; have HL50 := hid hl50; have HX50 := hid (show Below w4.heap.size w4 w50 from bnext (by first | exact HX52.out | exact bal HX52.out _ | exact HX51.out | exact bal HX51.out _ | exact HX50.out | exact bal HX50.out _ | exact (Below.refl _ _).drew | exact bal (Below.refl _ _).drew _ | exact (bal (Below.refl _ _) _).drew | exact Below.refl _ _ | exact bal (Below.refl _ _) _ | exact bst HX52.out HX51.out.size _ | exact bst HX52.out HX50.out.size _ | exact bst HX52.out HX52.out.size _ | exact bst HX52.out (Nat.le_refl _) _) hb50); (first | (have bf := hid (Bxf.kept bf.out hb50); skip) | (have bf := hid (Bxf.kept (Bxf.new (w := w4) (b := w4.heap.size) rfl) hb50)) | (have bf := hid (Bxf.kept (Bxf.new (w := w4.drew) (b := w4.heap.size) rfl) hb50)) | skip); clear hl50 hb50) | (go_at_call 18; refine (HTX.out _ (bnext HB4.out (by first | exact HX52.out | exact bal HX52.out _ | exact HX51.out | exact bal HX51.out _ | exact HX50.out | exact bal HX50.out _ | exact (Below.refl _ _).drew | exact bal (Below.refl _ _).drew _ | exact (bal (Below.refl _ _) _).drew | exact Below.refl _ _ | exact bal (Below.refl _ _) _ | exact bst HX52.out HX51.out.size _ | exact bst HX52.out HX50.out.size _ | exact bst HX52.out HX52.out.size _ | exact bst HX52.out (Nat.le_refl _) _))).mono ?_; rintro e w51 ⟨A51, c51, rfl, ho51, hb51⟩; have HP51 := hid (Copies.mk' (c4 := c51) HL50.out (bnext (by first | exact Below.refl _ _ | exact bal (Below.refl _ _) _) hb51) (by rw [← HNl.out]; exact ho51)); have HX51 := hid (show Below w4.heap.size w4 w51 from bnext (by first | exact HX52.out | exact bal HX52.out _ | exact HX51.out | exact bal HX51.out _ | exact HX50.out | exact bal HX50.out _ | exact (Below.refl _ _).drew | exact bal (Below.refl _ _).drew _ | exact (bal (Below.refl _ _) _).drew | exact Below.refl _ _ | exact bal (Below.refl _ _) _ | exact bst HX52.out HX51.out.size _ | exact bst HX52.out HX50.out.size _ | exact bst HX52.out HX52.out.size _ | exact bst HX52.out (Nat.le_refl _) _) hb51); (first | (have bf := hid (Bxf.kept bf.out hb51); skip) | (have bf := hid (Bxf.kept (Bxf.new (w := w50) (b := w50.heap.size) rfl) hb51)) | (have bf := hid (Bxf.kept (Bxf.new (w := w50.drew) (b := w50.heap.size) rfl) hb51)) | skip); clear ho51 hb51) | (go_at_call 52; refine (HF3.out _ _ _ _ _ _ (HP51.out.below (by first | exact Below.refl _ _ | exact bal (Below.refl _ _) _)) (bnext HB4.out (by first | exact HX52.out | exact bal HX52.out _ | exact HX51.out | exact bal HX51.out _ | exact HX50.out | exact bal HX50.out _ | exact (Below.refl _ _).drew | exact bal (Below.refl _ _).drew _ | exact (bal (Below.refl _ _) _).drew | exact Below.refl _ _ | exact bal (Below.refl _ _) _ | exact bst HX52.out HX51.out.size _ | exact bst HX52.out HX50.out.size _ | exact bst HX52.out HX52.out.size _ | exact bst HX52.out (Nat.le_refl _) _))).mono ?_; rintro e w52 ⟨A52, c52, rfl, hr52, hb52⟩; have HR52 := hid (show Nds w52 w52.heap.size A52 L3 from Reads.of_own (by rw [← HN3.out]; exact hr52)); (first | (have bo := hid (Bxf.own bf.out hb52 hr52 HN3.out); skip) | (have bo := hid (Bxf.own (Bxf.new (w := w51) (b := w51.heap.size) rfl) hb52 hr52 HN3.out)) | skip); have HX52 := hid (show Below w4.heap.size w4 w52 from bnext (by first | exact HX52.out | exact bal HX52.out _ | exact HX51.out | exact bal HX51.out _ | exact HX50.out | exact bal HX50.out _ | exact (Below.refl _ _).drew | exact bal (Below.refl _ _).drew _ | exact (bal (Below.refl _ _) _).drew | exact Below.refl _ _ | exact bal (Below.refl _ _) _ | exact bst HX52.out HX51.out.size _ | exact bst HX52.out HX50.out.size _ | exact bst HX52.out HX52.out.size _ | exact bst HX52.out (Nat.le_refl _) _) hb52); (first | (have bf := hid (Bxf.kept bf.out hb52); skip) | (have bf := hid (Bxf.kept (Bxf.new (w := w51) (b := w51.heap.size) rfl) hb52)) | (have bf := hid (Bxf.kept (Bxf.new (w := w51.drew) (b := w51.heap.size) rfl) hb52)) | skip); (first | (have bfc := bf.out.cell; have bff := bf.out.free) | skip); clear hr52 hb52))
      all_goals
        go_wp2_with fail
        go_meet
        first
          | exact ⟨_, _, _, rfl, rfl, hid bo.out.1, hid bo.out.2, hid (by first | exact HX52.out | exact bal HX52.out _ | exact HX51.out | exact bal HX51.out _ | exact HX50.out | exact bal HX50.out _ | exact (Below.refl _ _).drew | exact bal (Below.refl _ _).drew _ | exact (bal (Below.refl _ _) _).drew | exact Below.refl _ _ | exact bal (Below.refl _ _) _ | exact bst HX52.out HX51.out.size _ | exact bst HX52.out HX50.out.size _ | exact bst HX52.out HX52.out.size _ | exact bst HX52.out (Nat.le_refl _) _)⟩
          | exact ⟨_, _, _, rfl, rfl, hid (Bx.new rfl), hid (rdn HR52.out (bal (Below.refl _ _) _)), hid (bal HX52.out _)⟩
    obtain ⟨b5, A5, c5, rfl, rfl, BX5, HR5, HX5⟩ := hcut
    obtain ⟨w5, rfl⟩ : ∃ W, W = wc := ⟨_, rfl⟩
    have HB5 := hid (bnext HB4.out HX5.out)
    replace HR3 := hid (rdn HR3.out HX5.out)
    replace BX3 := hid (bxn BX3.out HX5.out)
    replace HR4 := hid (rdn HR4.out HX5.out)
    replace BX4 := hid (bxn BX4.out HX5.out)
    clear HX5
    go_upto_region 6 with (fail)
    go_cut [9, 10] (fun s3 s4 wx => ∃ (b : Nat) (A' : Option Addr) (c' : Nat), s3 = .pointer (some ⟨b, 0, none⟩) ∧ s4 = .int .i64 0 ∧ Hid (Bx wx b (.slice A' n3 c')) ∧ Hid (Nds wx wx.heap.size A' L3) ∧ Hid (Below w5.heap.size w5 wx))
    case first =>
     as_aux_lemma =>
      have q0 := HC0.out w5 HB5.out; have q1 := HC1.out w5 HB5.out; have q3 := HC3.out w5 HB5.out; have q4 := BX5.out.cell
      have hsb : w1.heap.size ≤ w5.heap.size := HB5.out.size
      go_region_held3 (fun w' => w'.cell? ⟨B0, 0, none⟩ = some (.int .i64 P) ∧ w'.cell? ⟨B0, 1, none⟩ = some (.slice A N c) ∧ w'.cell? ⟨B0, 2, none⟩ = some (.slice A2 n c2) ∧ w'.cell? ⟨b5, 0, none⟩ = some (.slice A5 n3 c5)) (first | exact ⟨q0, q1, q3, q4⟩ | exact ⟨HC0.out _ (bnext HB5.out (by first | exact HX62.out | exact bal HX62.out _ | exact HX61.out | exact bal HX61.out _ | exact HX60.out | exact bal HX60.out _ | exact (Below.refl _ _).drew | exact bal (Below.refl _ _).drew _ | exact (bal (Below.refl _ _) _).drew | exact Below.refl _ _ | exact bal (Below.refl _ _) _ | exact bst HX62.out HX61.out.size _ | exact bst HX62.out HX60.out.size _ | exact bst HX62.out HX62.out.size _ | exact bst HX62.out (Nat.le_refl _) _)), HC1.out _ (bnext HB5.out (by first | exact HX62.out | exact bal HX62.out _ | exact HX61.out | exact bal HX61.out _ | exact HX60.out | exact bal HX60.out _ | exact (Below.refl _ _).drew | exact bal (Below.refl _ _).drew _ | exact (bal (Below.refl _ _) _).drew | exact Below.refl _ _ | exact bal (Below.refl _ _) _ | exact bst HX62.out HX61.out.size _ | exact bst HX62.out HX60.out.size _ | exact bst HX62.out HX62.out.size _ | exact bst HX62.out (Nat.le_refl _) _)), HC3.out _ (bnext HB5.out (by first | exact HX62.out | exact bal HX62.out _ | exact HX61.out | exact bal HX61.out _ | exact HX60.out | exact bal HX60.out _ | exact (Below.refl _ _).drew | exact bal (Below.refl _ _).drew _ | exact (bal (Below.refl _ _) _).drew | exact Below.refl _ _ | exact bal (Below.refl _ _) _ | exact bst HX62.out HX61.out.size _ | exact bst HX62.out HX60.out.size _ | exact bst HX62.out HX62.out.size _ | exact bst HX62.out (Nat.le_refl _) _)), (bxn BX5.out (by first | exact HX62.out | exact bal HX62.out _ | exact HX61.out | exact bal HX61.out _ | exact HX60.out | exact bal HX60.out _ | exact (Below.refl _ _).drew | exact bal (Below.refl _ _).drew _ | exact (bal (Below.refl _ _) _).drew | exact Below.refl _ _ | exact bal (Below.refl _ _) _ | exact bst HX62.out HX61.out.size _ | exact bst HX62.out HX60.out.size _ | exact bst HX62.out HX62.out.size _ | exact bst HX62.out (Nat.le_refl _) _)).cell⟩ | fail) (first | (go_at_call 17; refine (HLI.out _ (bnext HB5.out (by first | exact HX62.out | exact bal HX62.out _ | exact HX61.out | exact bal HX61.out _ | exact HX60.out | exact bal HX60.out _ | exact (Below.refl _ _).drew | exact bal (Below.refl _ _).drew _ | exact (bal (Below.refl _ _) _).drew | exact Below.refl _ _ | exact bal (Below.refl _ _) _ | exact bst HX62.out HX61.out.size _ | exact bst HX62.out HX60.out.size _ | exact bst HX62.out HX62.out.size _ | exact bst HX62.out (Nat.le_refl _) _))).mono ?_; rintro e w60 ⟨A60, c60, ss60, rfl, hl60, hb60⟩; have HL60 := hid hl60; have HX60 := hid (show Below w5.heap.size w5 w60 from bnext (by first | exact HX62.out | exact bal HX62.out _ | exact HX61.out | exact bal HX61.out _ | exact HX60.out | exact bal HX60.out _ | exact (Below.refl _ _).drew | exact bal (Below.refl _ _).drew _ | exact (bal (Below.refl _ _) _).drew | exact Below.refl _ _ | exact bal (Below.refl _ _) _ | exact bst HX62.out HX61.out.size _ | exact bst HX62.out HX60.out.size _ | exact bst HX62.out HX62.out.size _ | exact bst HX62.out (Nat.le_refl _) _) hb60); (first | (have bf := hid (Bxf.kept bf.out hb60); skip) | (have bf := hid (Bxf.kept (Bxf.new (w := w5) (b := w5.heap.size) rfl) hb60)) | (have bf := hid (Bxf.kept (Bxf.new (w := w5.drew) (b := w5.heap.size) rfl) hb60)) | skip); clear hl60 hb60) | (go_at_call 38; refine (HCP3.out A5 c5 _ (rdn HR5.out (by first | exact HX62.out | exact bal HX62.out _ | exact HX61.out | exact bal HX61.out _ | exact HX60.out | exact bal HX60.out _ | exact (Below.refl _ _).drew | exact bal (Below.refl _ _).drew _ | exact (bal (Below.refl _ _) _).drew | exact Below.refl _ _ | exact bal (Below.refl _ _) _ | exact bst HX62.out HX61.out.size _ | exact bst HX62.out HX60.out.size _ | exact bst HX62.out HX62.out.size _ | exact bst HX62.out (Nat.le_refl _) _))).mono ?_; rintro e w61 ⟨A61, c61, rfl, ho61, hb61⟩; have HP61 := hid (Copies.mk' (c4 := c61) HL60.out (bnext (by first | exact Below.refl _ _ | exact bal (Below.refl _ _) _) hb61) (by rw [← HN3.out]; exact ho61)); have HX61 := hid (show Below w5.heap.size w5 w61 from bnext (by first | exact HX62.out | exact bal HX62.out _ | exact HX61.out | exact bal HX61.out _ | exact HX60.out | exact bal HX60.out _ | exact (Below.refl _ _).drew | exact bal (Below.refl _ _).drew _ | exact (bal (Below.refl _ _) _).drew | exact Below.refl _ _ | exact bal (Below.refl _ _) _ | exact bst HX62.out HX61.out.size _ | exact bst HX62.out HX60.out.size _ | exact bst HX62.out HX62.out.size _ | exact bst HX62.out (Nat.le_refl _) _) hb61); (first | (have bf := hid (Bxf.kept bf.out hb61); skip) | (have bf := hid (Bxf.kept (Bxf.new (w := w60) (b := w60.heap.size) rfl) hb61)) | (have bf := hid (Bxf.kept (Bxf.new (w := w60.drew) (b := w60.heap.size) rfl) hb61)) | skip); clear ho61 hb61) | (go_at_call 52; refine (HF4.out _ _ _ _ _ _ (HP61.out.below (by first | exact Below.refl _ _ | exact bal (Below.refl _ _) _)) (bnext HB5.out (by first | exact HX62.out | exact bal HX62.out _ | exact HX61.out | exact bal HX61.out _ | exact HX60.out | exact bal HX60.out _ | exact (Below.refl _ _).drew | exact bal (Below.refl _ _).drew _ | exact (bal (Below.refl _ _) _).drew | exact Below.refl _ _ | exact bal (Below.refl _ _) _ | exact bst HX62.out HX61.out.size _ | exact bst HX62.out HX60.out.size _ | exact bst HX62.out HX62.out.size _ | exact bst HX62.out (Nat.le_refl _) _))).mono ?_; rintro e w62 ⟨A62, c62, rfl, hr62, hb62⟩; have HR62 := hid (show Nds w62 w62.heap.size A62 L3 from Reads.of_own (by rw [← HN3.out]; exact hr62)); (first | (have bo := hid (Bxf.own bf.out hb62 hr62 HN3.out); skip) | (have bo := hid (Bxf.own (Bxf.new (w := w61) (b := w61.heap.size) rfl) hb62 hr62 HN3.out)) | skip); have HX62 := hid (show Below w5.heap.size w5 w62 from bnext (by first | exact HX62.out | exact bal HX62.out _ | exact HX61.out | exact bal HX61.out _ | exact HX60.out | exact bal HX60.out _ | exact (Below.refl _ _).drew | exact bal (Below.refl _ _).drew _ | exact (bal (Below.refl _ _) _).drew | exact Below.refl _ _ | exact bal (Below.refl _ _) _ | exact bst HX62.out HX61.out.size _ | exact bst HX62.out HX60.out.size _ | exact bst HX62.out HX62.out.size _ | exact bst HX62.out (Nat.le_refl _) _) hb62); (first | (have bf := hid (Bxf.kept bf.out hb62); skip) | (have bf := hid (Bxf.kept (Bxf.new (w := w61) (b := w61.heap.size) rfl) hb62)) | (have bf := hid (Bxf.kept (Bxf.new (w := w61.drew) (b := w61.heap.size) rfl) hb62)) | skip); (first | (have bfc := bf.out.cell; have bff := bf.out.free) | skip); clear hr62 hb62))
      all_goals
        go_wp2_with fail
        go_meet
        first
          | exact ⟨_, _, _, rfl, rfl, hid bo.out.1, hid bo.out.2, hid (by first | exact HX62.out | exact bal HX62.out _ | exact HX61.out | exact bal HX61.out _ | exact HX60.out | exact bal HX60.out _ | exact (Below.refl _ _).drew | exact bal (Below.refl _ _).drew _ | exact (bal (Below.refl _ _) _).drew | exact Below.refl _ _ | exact bal (Below.refl _ _) _ | exact bst HX62.out HX61.out.size _ | exact bst HX62.out HX60.out.size _ | exact bst HX62.out HX62.out.size _ | exact bst HX62.out (Nat.le_refl _) _)⟩
          | exact ⟨_, _, _, rfl, rfl, hid (Bx.new rfl), hid (rdn HR62.out (bal (Below.refl _ _) _)), hid (bal HX62.out _)⟩
    obtain ⟨b6, A6, c6, rfl, rfl, BX6, HR6, HX6⟩ := hcut
    obtain ⟨w6, rfl⟩ : ∃ W, W = wc := ⟨_, rfl⟩
    have HB6 := hid (bnext HB5.out HX6.out)
    replace HR3 := hid (rdn HR3.out HX6.out)
    replace BX3 := hid (bxn BX3.out HX6.out)
    replace HR4 := hid (rdn HR4.out HX6.out)
    replace BX4 := hid (bxn BX4.out HX6.out)
    replace HR5 := hid (rdn HR5.out HX6.out)
    replace BX5 := hid (bxn BX5.out HX6.out)
    clear HX6
    go_upto_region 7 with (fail)
    go_cut [11, 12] (fun s3 s4 wx => ∃ (b : Nat) (A' : Option Addr) (c' : Nat), s3 = .pointer (some ⟨b, 0, none⟩) ∧ s4 = .int .i64 0 ∧ Hid (Bx wx b (.slice A' n4 c')) ∧ Hid (Nds wx wx.heap.size A' L4) ∧ Hid (Below w6.heap.size w6 wx))
    case first =>
     as_aux_lemma =>
      have q0 := HC0.out w6 HB6.out; have q1 := HC1.out w6 HB6.out; have q3 := HC3.out w6 HB6.out
      have hsb : w1.heap.size ≤ w6.heap.size := HB6.out.size
      go_region_held3 (fun w' => w'.cell? ⟨B0, 0, none⟩ = some (.int .i64 P) ∧ w'.cell? ⟨B0, 1, none⟩ = some (.slice A N c) ∧ w'.cell? ⟨B0, 2, none⟩ = some (.slice A2 n c2)) (first | exact ⟨q0, q1, q3⟩ | exact ⟨HC0.out _ (bnext HB6.out (by first | exact HX72.out | exact bal HX72.out _ | exact HX71.out | exact bal HX71.out _ | exact HX70.out | exact bal HX70.out _ | exact (Below.refl _ _).drew | exact bal (Below.refl _ _).drew _ | exact (bal (Below.refl _ _) _).drew | exact Below.refl _ _ | exact bal (Below.refl _ _) _ | exact bst HX72.out HX71.out.size _ | exact bst HX72.out HX70.out.size _ | exact bst HX72.out HX72.out.size _ | exact bst HX72.out (Nat.le_refl _) _)), HC1.out _ (bnext HB6.out (by first | exact HX72.out | exact bal HX72.out _ | exact HX71.out | exact bal HX71.out _ | exact HX70.out | exact bal HX70.out _ | exact (Below.refl _ _).drew | exact bal (Below.refl _ _).drew _ | exact (bal (Below.refl _ _) _).drew | exact Below.refl _ _ | exact bal (Below.refl _ _) _ | exact bst HX72.out HX71.out.size _ | exact bst HX72.out HX70.out.size _ | exact bst HX72.out HX72.out.size _ | exact bst HX72.out (Nat.le_refl _) _)), HC3.out _ (bnext HB6.out (by first | exact HX72.out | exact bal HX72.out _ | exact HX71.out | exact bal HX71.out _ | exact HX70.out | exact bal HX70.out _ | exact (Below.refl _ _).drew | exact bal (Below.refl _ _).drew _ | exact (bal (Below.refl _ _) _).drew | exact Below.refl _ _ | exact bal (Below.refl _ _) _ | exact bst HX72.out HX71.out.size _ | exact bst HX72.out HX70.out.size _ | exact bst HX72.out HX72.out.size _ | exact bst HX72.out (Nat.le_refl _) _))⟩ | fail) (first | (go_at_call 17; refine (HLI.out _ (bnext HB6.out (by first | exact HX72.out | exact bal HX72.out _ | exact HX71.out | exact bal HX71.out _ | exact HX70.out | exact bal HX70.out _ | exact (Below.refl _ _).drew | exact bal (Below.refl _ _).drew _ | exact (bal (Below.refl _ _) _).drew | exact Below.refl _ _ | exact bal (Below.refl _ _) _ | exact bst HX72.out HX71.out.size _ | exact bst HX72.out HX70.out.size _ | exact bst HX72.out HX72.out.size _ | exact bst HX72.out (Nat.le_refl _) _))).mono ?_; rintro e w70 ⟨A70, c70, ss70, rfl, hl70, hb70⟩; have HL70 := hid hl70; have HX70 := hid (show Below w6.heap.size w6 w70 from bnext (by first | exact HX72.out | exact bal HX72.out _ | exact HX71.out | exact bal HX71.out _ | exact HX70.out | exact bal HX70.out _ | exact (Below.refl _ _).drew | exact bal (Below.refl _ _).drew _ | exact (bal (Below.refl _ _) _).drew | exact Below.refl _ _ | exact bal (Below.refl _ _) _ | exact bst HX72.out HX71.out.size _ | exact bst HX72.out HX70.out.size _ | exact bst HX72.out HX72.out.size _ | exact bst HX72.out (Nat.le_refl _) _) hb70); (first | (have bf := hid (Bxf.kept bf.out hb70); skip) | (have bf := hid (Bxf.kept (Bxf.new (w := w6) (b := w6.heap.size) rfl) hb70)) | (have bf := hid (Bxf.kept (Bxf.new (w := w6.drew) (b := w6.heap.size) rfl) hb70)) | skip); clear hl70 hb70) | (go_at_call 18; refine (HTX.out _ (bnext HB6.out (by first | exact HX72.out | exact bal HX72.out _ | exact HX71.out | exact bal HX71.out _ | exact HX70.out | exact bal HX70.out _ | exact (Below.refl _ _).drew | exact bal (Below.refl _ _).drew _ | exact (bal (Below.refl _ _) _).drew | exact Below.refl _ _ | exact bal (Below.refl _ _) _ | exact bst HX72.out HX71.out.size _ | exact bst HX72.out HX70.out.size _ | exact bst HX72.out HX72.out.size _ | exact bst HX72.out (Nat.le_refl _) _))).mono ?_; rintro e w71 ⟨A71, c71, rfl, ho71, hb71⟩; have HP71 := hid (Copies.mk' (c4 := c71) HL70.out (bnext (by first | exact Below.refl _ _ | exact bal (Below.refl _ _) _) hb71) (by rw [← HNl.out]; exact ho71)); have HX71 := hid (show Below w6.heap.size w6 w71 from bnext (by first | exact HX72.out | exact bal HX72.out _ | exact HX71.out | exact bal HX71.out _ | exact HX70.out | exact bal HX70.out _ | exact (Below.refl _ _).drew | exact bal (Below.refl _ _).drew _ | exact (bal (Below.refl _ _) _).drew | exact Below.refl _ _ | exact bal (Below.refl _ _) _ | exact bst HX72.out HX71.out.size _ | exact bst HX72.out HX70.out.size _ | exact bst HX72.out HX72.out.size _ | exact bst HX72.out (Nat.le_refl _) _) hb71); (first | (have bf := hid (Bxf.kept bf.out hb71); skip) | (have bf := hid (Bxf.kept (Bxf.new (w := w70) (b := w70.heap.size) rfl) hb71)) | (have bf := hid (Bxf.kept (Bxf.new (w := w70.drew) (b := w70.heap.size) rfl) hb71)) | skip); clear ho71 hb71) | (go_at_call 47; refine (HF5.out _ _ _ _ _ _ (HP71.out.below (by first | exact Below.refl _ _ | exact bal (Below.refl _ _) _)) (bnext HB6.out (by first | exact HX72.out | exact bal HX72.out _ | exact HX71.out | exact bal HX71.out _ | exact HX70.out | exact bal HX70.out _ | exact (Below.refl _ _).drew | exact bal (Below.refl _ _).drew _ | exact (bal (Below.refl _ _) _).drew | exact Below.refl _ _ | exact bal (Below.refl _ _) _ | exact bst HX72.out HX71.out.size _ | exact bst HX72.out HX70.out.size _ | exact bst HX72.out HX72.out.size _ | exact bst HX72.out (Nat.le_refl _) _))).mono ?_; rintro e w72 ⟨A72, c72, rfl, hr72, hb72⟩; have HR72 := hid (show Nds w72 w72.heap.size A72 L4 from Reads.of_own (by rw [← HN4.out]; exact hr72)); (first | (have bo := hid (Bxf.own bf.out hb72 hr72 HN4.out); skip) | (have bo := hid (Bxf.own (Bxf.new (w := w71) (b := w71.heap.size) rfl) hb72 hr72 HN4.out)) | skip); have HX72 := hid (show Below w6.heap.size w6 w72 from bnext (by first | exact HX72.out | exact bal HX72.out _ | exact HX71.out | exact bal HX71.out _ | exact HX70.out | exact bal HX70.out _ | exact (Below.refl _ _).drew | exact bal (Below.refl _ _).drew _ | exact (bal (Below.refl _ _) _).drew | exact Below.refl _ _ | exact bal (Below.refl _ _) _ | exact bst HX72.out HX71.out.size _ | exact bst HX72.out HX70.out.size _ | exact bst HX72.out HX72.out.size _ | exact bst HX72.out (Nat.le_refl _) _) hb72); (first | (have bf := hid (Bxf.kept bf.out hb72); skip) | (have bf := hid (Bxf.kept (Bxf.new (w := w71) (b := w71.heap.size) rfl) hb72)) | (have bf := hid (Bxf.kept (Bxf.new (w := w71.drew) (b := w71.heap.size) rfl) hb72)) | skip); (first | (have bfc := bf.out.cell; have bff := bf.out.free) | skip); clear hr72 hb72))
      all_goals
        go_wp2_with fail
        go_meet
        first
          | exact ⟨_, _, _, rfl, rfl, hid bo.out.1, hid bo.out.2, hid (by first | exact HX72.out | exact bal HX72.out _ | exact HX71.out | exact bal HX71.out _ | exact HX70.out | exact bal HX70.out _ | exact (Below.refl _ _).drew | exact bal (Below.refl _ _).drew _ | exact (bal (Below.refl _ _) _).drew | exact Below.refl _ _ | exact bal (Below.refl _ _) _ | exact bst HX72.out HX71.out.size _ | exact bst HX72.out HX70.out.size _ | exact bst HX72.out HX72.out.size _ | exact bst HX72.out (Nat.le_refl _) _)⟩
          | exact ⟨_, _, _, rfl, rfl, hid (Bx.new rfl), hid (rdn HR72.out (bal (Below.refl _ _) _)), hid (bal HX72.out _)⟩
    obtain ⟨b7, A7, c7, rfl, rfl, BX7, HR7, HX7⟩ := hcut
    obtain ⟨w7, rfl⟩ : ∃ W, W = wc := ⟨_, rfl⟩
    have HB7 := hid (bnext HB6.out HX7.out)
    replace HR3 := hid (rdn HR3.out HX7.out)
    replace BX3 := hid (bxn BX3.out HX7.out)
    replace HR4 := hid (rdn HR4.out HX7.out)
    replace BX4 := hid (bxn BX4.out HX7.out)
    replace HR5 := hid (rdn HR5.out HX7.out)
    replace BX5 := hid (bxn BX5.out HX7.out)
    replace HR6 := hid (rdn HR6.out HX7.out)
    replace BX6 := hid (bxn BX6.out HX7.out)
    clear HX7
    go_upto_region 8 with (fail)
    go_cut [13, 14] (fun s3 s4 wx => ∃ (b : Nat) (A' : Option Addr) (c' : Nat), s3 = .pointer (some ⟨b, 0, none⟩) ∧ s4 = .int .i64 0 ∧ Hid (Bx wx b (.slice A' n c')) ∧ Hid (Nds wx wx.heap.size A' l) ∧ Hid (Below w7.heap.size w7 wx))
    case first =>
     as_aux_lemma =>
      have q0 := HC0.out w7 HB7.out; have q1 := HC1.out w7 HB7.out; have q3 := HC3.out w7 HB7.out; have q4 := BX7.out.cell
      have hsb : w1.heap.size ≤ w7.heap.size := HB7.out.size
      go_region_held3 (fun w' => w'.cell? ⟨B0, 0, none⟩ = some (.int .i64 P) ∧ w'.cell? ⟨B0, 1, none⟩ = some (.slice A N c) ∧ w'.cell? ⟨B0, 2, none⟩ = some (.slice A2 n c2) ∧ w'.cell? ⟨b7, 0, none⟩ = some (.slice A7 n4 c7)) (first | exact ⟨q0, q1, q3, q4⟩ | exact ⟨HC0.out _ (bnext HB7.out (by first | exact HX82.out | exact bal HX82.out _ | exact HX81.out | exact bal HX81.out _ | exact HX80.out | exact bal HX80.out _ | exact (Below.refl _ _).drew | exact bal (Below.refl _ _).drew _ | exact (bal (Below.refl _ _) _).drew | exact Below.refl _ _ | exact bal (Below.refl _ _) _ | exact bst HX82.out HX81.out.size _ | exact bst HX82.out HX80.out.size _ | exact bst HX82.out HX82.out.size _ | exact bst HX82.out (Nat.le_refl _) _)), HC1.out _ (bnext HB7.out (by first | exact HX82.out | exact bal HX82.out _ | exact HX81.out | exact bal HX81.out _ | exact HX80.out | exact bal HX80.out _ | exact (Below.refl _ _).drew | exact bal (Below.refl _ _).drew _ | exact (bal (Below.refl _ _) _).drew | exact Below.refl _ _ | exact bal (Below.refl _ _) _ | exact bst HX82.out HX81.out.size _ | exact bst HX82.out HX80.out.size _ | exact bst HX82.out HX82.out.size _ | exact bst HX82.out (Nat.le_refl _) _)), HC3.out _ (bnext HB7.out (by first | exact HX82.out | exact bal HX82.out _ | exact HX81.out | exact bal HX81.out _ | exact HX80.out | exact bal HX80.out _ | exact (Below.refl _ _).drew | exact bal (Below.refl _ _).drew _ | exact (bal (Below.refl _ _) _).drew | exact Below.refl _ _ | exact bal (Below.refl _ _) _ | exact bst HX82.out HX81.out.size _ | exact bst HX82.out HX80.out.size _ | exact bst HX82.out HX82.out.size _ | exact bst HX82.out (Nat.le_refl _) _)), (bxn BX7.out (by first | exact HX82.out | exact bal HX82.out _ | exact HX81.out | exact bal HX81.out _ | exact HX80.out | exact bal HX80.out _ | exact (Below.refl _ _).drew | exact bal (Below.refl _ _).drew _ | exact (bal (Below.refl _ _) _).drew | exact Below.refl _ _ | exact bal (Below.refl _ _) _ | exact bst HX82.out HX81.out.size _ | exact bst HX82.out HX80.out.size _ | exact bst HX82.out HX82.out.size _ | exact bst HX82.out (Nat.le_refl _) _)).cell⟩ | fail) (first | (go_at_call 17; refine (HLI.out _ (bnext HB7.out (by first | exact HX82.out | exact bal HX82.out _ | exact HX81.out | exact bal HX81.out _ | exact HX80.out | exact bal HX80.out _ | exact (Below.refl _ _).drew | exact bal (Below.refl _ _).drew _ | exact (bal (Below.refl _ _) _).drew | exact Below.refl _ _ | exact bal (Below.refl _ _) _ | exact bst HX82.out HX81.out.size _ | exact bst HX82.out HX80.out.size _ | exact bst HX82.out HX82.out.size _ | exact bst HX82.out (Nat.le_refl _) _))).mono ?_; rintro e w80 ⟨A80, c80, ss80, rfl, hl80, hb80⟩; have HL80 := hid hl80; have HX80 := hid (show Below w7.heap.size w7 w80 from bnext (by first | exact HX82.out | exact bal HX82.out _ | exact HX81.out | exact bal HX81.out _ | exact HX80.out | exact bal HX80.out _ | exact (Below.refl _ _).drew | exact bal (Below.refl _ _).drew _ | exact (bal (Below.refl _ _) _).drew | exact Below.refl _ _ | exact bal (Below.refl _ _) _ | exact bst HX82.out HX81.out.size _ | exact bst HX82.out HX80.out.size _ | exact bst HX82.out HX82.out.size _ | exact bst HX82.out (Nat.le_refl _) _) hb80); (first | (have bf := hid (Bxf.kept bf.out hb80); skip) | (have bf := hid (Bxf.kept (Bxf.new (w := w7) (b := w7.heap.size) rfl) hb80)) | (have bf := hid (Bxf.kept (Bxf.new (w := w7.drew) (b := w7.heap.size) rfl) hb80)) | skip); clear hl80 hb80) | (go_at_call 38; refine (HCP4.out A7 c7 _ (rdn HR7.out (by first | exact HX82.out | exact bal HX82.out _ | exact HX81.out | exact bal HX81.out _ | exact HX80.out | exact bal HX80.out _ | exact (Below.refl _ _).drew | exact bal (Below.refl _ _).drew _ | exact (bal (Below.refl _ _) _).drew | exact Below.refl _ _ | exact bal (Below.refl _ _) _ | exact bst HX82.out HX81.out.size _ | exact bst HX82.out HX80.out.size _ | exact bst HX82.out HX82.out.size _ | exact bst HX82.out (Nat.le_refl _) _))).mono ?_; rintro e w81 ⟨A81, c81, rfl, ho81, hb81⟩; have HP81 := hid (Copies.mk' (c4 := c81) HL80.out (bnext (by first | exact Below.refl _ _ | exact bal (Below.refl _ _) _) hb81) (by rw [← HN4.out]; exact ho81)); have HX81 := hid (show Below w7.heap.size w7 w81 from bnext (by first | exact HX82.out | exact bal HX82.out _ | exact HX81.out | exact bal HX81.out _ | exact HX80.out | exact bal HX80.out _ | exact (Below.refl _ _).drew | exact bal (Below.refl _ _).drew _ | exact (bal (Below.refl _ _) _).drew | exact Below.refl _ _ | exact bal (Below.refl _ _) _ | exact bst HX82.out HX81.out.size _ | exact bst HX82.out HX80.out.size _ | exact bst HX82.out HX82.out.size _ | exact bst HX82.out (Nat.le_refl _) _) hb81); (first | (have bf := hid (Bxf.kept bf.out hb81); skip) | (have bf := hid (Bxf.kept (Bxf.new (w := w80) (b := w80.heap.size) rfl) hb81)) | (have bf := hid (Bxf.kept (Bxf.new (w := w80.drew) (b := w80.heap.size) rfl) hb81)) | skip); clear ho81 hb81) | (go_at_call 47; refine (HF6.out _ _ _ _ _ _ (HP81.out.below (by first | exact Below.refl _ _ | exact bal (Below.refl _ _) _)) (bnext HB7.out (by first | exact HX82.out | exact bal HX82.out _ | exact HX81.out | exact bal HX81.out _ | exact HX80.out | exact bal HX80.out _ | exact (Below.refl _ _).drew | exact bal (Below.refl _ _).drew _ | exact (bal (Below.refl _ _) _).drew | exact Below.refl _ _ | exact bal (Below.refl _ _) _ | exact bst HX82.out HX81.out.size _ | exact bst HX82.out HX80.out.size _ | exact bst HX82.out HX82.out.size _ | exact bst HX82.out (Nat.le_refl _) _))).mono ?_; rintro e w82 ⟨A82, c82, rfl, hr82, hb82⟩; have HR82 := hid (show Nds w82 w82.heap.size A82 l from Reads.of_own (by rw [← HNl.out]; exact hr82)); (first | (have bo := hid (Bxf.own bf.out hb82 hr82 HNl.out); skip) | (have bo := hid (Bxf.own (Bxf.new (w := w81) (b := w81.heap.size) rfl) hb82 hr82 HNl.out)) | skip); have HX82 := hid (show Below w7.heap.size w7 w82 from bnext (by first | exact HX82.out | exact bal HX82.out _ | exact HX81.out | exact bal HX81.out _ | exact HX80.out | exact bal HX80.out _ | exact (Below.refl _ _).drew | exact bal (Below.refl _ _).drew _ | exact (bal (Below.refl _ _) _).drew | exact Below.refl _ _ | exact bal (Below.refl _ _) _ | exact bst HX82.out HX81.out.size _ | exact bst HX82.out HX80.out.size _ | exact bst HX82.out HX82.out.size _ | exact bst HX82.out (Nat.le_refl _) _) hb82); (first | (have bf := hid (Bxf.kept bf.out hb82); skip) | (have bf := hid (Bxf.kept (Bxf.new (w := w81) (b := w81.heap.size) rfl) hb82)) | (have bf := hid (Bxf.kept (Bxf.new (w := w81.drew) (b := w81.heap.size) rfl) hb82)) | skip); (first | (have bfc := bf.out.cell; have bff := bf.out.free) | skip); clear hr82 hb82))
      all_goals
        go_wp2_with fail
        go_meet
        first
          | exact ⟨_, _, _, rfl, rfl, hid bo.out.1, hid bo.out.2, hid (by first | exact HX82.out | exact bal HX82.out _ | exact HX81.out | exact bal HX81.out _ | exact HX80.out | exact bal HX80.out _ | exact (Below.refl _ _).drew | exact bal (Below.refl _ _).drew _ | exact (bal (Below.refl _ _) _).drew | exact Below.refl _ _ | exact bal (Below.refl _ _) _ | exact bst HX82.out HX81.out.size _ | exact bst HX82.out HX80.out.size _ | exact bst HX82.out HX82.out.size _ | exact bst HX82.out (Nat.le_refl _) _)⟩
          | exact ⟨_, _, _, rfl, rfl, hid (Bx.new rfl), hid (rdn HR82.out (bal (Below.refl _ _) _)), hid (bal HX82.out _)⟩
    obtain ⟨b8, A8, c8, rfl, rfl, BX8, HR8, HX8⟩ := hcut
    obtain ⟨w8, rfl⟩ : ∃ W, W = wc := ⟨_, rfl⟩
    have HB8 := hid (bnext HB7.out HX8.out)
    replace HR3 := hid (rdn HR3.out HX8.out)
    replace BX3 := hid (bxn BX3.out HX8.out)
    replace HR4 := hid (rdn HR4.out HX8.out)
    replace BX4 := hid (bxn BX4.out HX8.out)
    replace HR5 := hid (rdn HR5.out HX8.out)
    replace BX5 := hid (bxn BX5.out HX8.out)
    replace HR6 := hid (rdn HR6.out HX8.out)
    replace BX6 := hid (bxn BX6.out HX8.out)
    replace HR7 := hid (rdn HR7.out HX8.out)
    replace BX7 := hid (bxn BX7.out HX8.out)
    clear HX8
    have HS1 := hid (txt_same n2 HN2.out (by omega) c3 c4 HR3.out HR4.out)
    have x1 := BX3.out.cell; have x2 := BX4.out.cell
    go_upto_region 11 with (first | (go_at_call 22; refine HS1.out.mono ?_; rintro e w9 ⟨rfl, hb9⟩; have HX9 := hid hb9; have HB9 := hid (bnext HB8.out hb9); have HS2 := hid (txt_same n3 HN3.out (by omega) c5 c6 (rdn HR5.out hb9) (rdn HR6.out hb9)); have x3 := (bxn BX5.out hb9).cell; have x4 := (bxn BX6.out hb9).cell; clear hb9 HS1 x1 x2) | (go_at_call 22; refine HS2.out.mono ?_; rintro e w10 ⟨rfl, hb10⟩; have HX10 := hid (bnext HX9.out hb10); have HB10 := hid (bnext HB9.out hb10); have HS3 := hid (txt_same n HNl.out (by omega) c8 c2 (rdn HR8.out HX10.out) (HRA.out w10 HB10.out)); have x5 := (bxn BX8.out HX10.out).cell; have q3 := HC3.out w10 HB10.out; clear hb10 HS2 x3 x4) | (go_at_call 22; refine HS3.out.mono ?_; rintro e w11 ⟨rfl, hb11⟩; have HB11 := hid (bnext HB10.out hb11); have HX11 := hid (bnext HX10.out hb11); clear hb11 HS3 x5 q3))
    have q0 := HC0.out w11 HB11.out; have q1 := HC1.out w11 HB11.out; have q3 := HC3.out w11 HB11.out
    go_upto_region 12 with (first | (go_at_call 33; refine (HRG.out w11 HB11.out).mono ?_; rintro e w12 ⟨A12, c12, rfl, hr12, hb12⟩; have HR12 := hid hr12; have HB12 := hid (bnext HB11.out hb12); have HX12 := hid (bnext HX11.out hb12); clear hr12 hb12 q0 q1 q3))
    have hZ := HB12.out.size
    go_wp2_with fail
    go_loopw [17] (fun kv wr => ∃ k : Nat, k ≤ nr ∧ kv = .int .i64 k ∧ Hid (∀ i (h : i < RL.length), i < k → RL[i].2 - RL[i].1 ≤ 6) ∧ Hid (Below w12.heap.size w12 wr)) (fun kv _ => nr - (intOf kv).toNat)
    case atStart => exact ⟨0, by omega, rfl, fun i _ h => by omega, hid (Below.refl _ _)⟩
    case round =>
      obtain ⟨k, hk, rfl, hQ, hB⟩ := hrel
      have HBr := hid (bnext HB12.out hB.out)
      have HX8r := hid (bnext HX12.out hB.out)
      by_cases hkn : k < nr
      · have hkl : k < RL.length := by rw [← HNR.out]; exact hkn
        obtain ⟨b, o, hA, hbB, hc⟩ := Prs.at (l := RL) HR12.out (by omega)
        subst hA
        have hx := (hc k hkl).below hB.out hbB
        have hbd := HBDR.out (RL[k]'hkl) (List.getElem_mem hkl)
        have hstep : (RL[k]'hkl).2 - (RL[k]'hkl).1 ≤ 6 → ∀ i (h : i < RL.length), i < k + 1 → RL[i].2 - RL[i].1 ≤ 6 := fun h6 i h hi => by
          rcases Nat.eq_or_lt_of_le (Nat.le_of_lt_succ hi) with rfl | h3
          · exact h6
          · exact hQ.out i h h3
        generalize RL[k]'hkl = pr at hx hbd hstep
        obtain ⟨x, y⟩ := pr
        have d1 := hx.p1; have d2 := hx.p2
        simp only [] at d1 d2 hbd hstep
        have hb1 := hbd.1; have hb2 := hbd.2.1; have hb3 : y ≤ 210 := by have := hbd.2.2; rw [← HNl.out] at this; omega
        have g0 : (k : Int) < (nr : Int) := by omega
        have HST := hid hstep
        have hwk := HWK.out
        clear hx hc hbd hstep hQ
        by_cases h6 : y - x ≤ 6
        · have f1 : decide (6 < y - x) = false := decide_eq_false (by omega)
          have f2 : ¬ 6 < y - x := by omega
          have HQ2 := hid (HST.out h6)
          go_wp2_with fail
          go_quiet (fail)
          go_wp2_with fail
          go_roundw
          case rel => exact ⟨k + 1, by omega, by go_num, HQ2, hid (by first | exact below_drewN hB.out _ | exact hB.out)⟩
          case measure => simp [intOf]; omega
        · have f1 : decide (6 < y - x) = true := decide_eq_true (by omega)
          have f2 : 6 < y - x := by omega
          clear h6
          go_wp2_with fail
          go_quiet (fail)
          go_wp2_with (first | (go_at_call 16; refine (HWK.out _).mono ?_; rintro e w25 ⟨rfl, hb25⟩; have HB25 := hid (bnext (by first | exact below_drewN HBr.out _ | exact HBr.out) hb25); clear hb25))
          go_ret
          exact ⟨rfl, HW.out _ HB25.out⟩
      · obtain rfl : k = nr := by omega
        have g0 : decide (k < k) = false := by simp
        have HAX := hid (HAL.out fun s hs => by
          obtain ⟨i, hi, rfl⟩ := List.getElem_of_mem hs
          exact hQ.out i hi (by rw [HNR.out]; exact hi))
        have BX5r := hid (bxn BX5.out HX8r.out)
        have HR5r := hid (show Nds wr wr.heap.size A5 L3 from rdn HR5.out HX8r.out)
        have q0 := HC0.out wr HBr.out; have q1 := HC1.out wr HBr.out; have q3 := HC3.out wr HBr.out
        have y1 := BX5r.out.cell
        have hwk := HWK.out
        clear hQ hB HAL
        go_upto_region 17 with (fail)
        go_region_held3 (fun w' => w'.cell? ⟨B0, 0, none⟩ = some (.int .i64 P) ∧ w'.cell? ⟨B0, 1, none⟩ = some (.slice A N c) ∧ w'.cell? ⟨B0, 2, none⟩ = some (.slice A2 n c2) ∧ w'.cell? ⟨b5, 0, none⟩ = some (.slice A5 n3 c5)) (first | exact ⟨q0, q1, q3, y1⟩ | exact ⟨HC0.out _ (bnext HBr.out (by first | exact HX173.out | exact HX172.out | exact HX171.out | exact HX170.out | exact (Below.refl _ _).drew | exact Below.refl _ _)), HC1.out _ (bnext HBr.out (by first | exact HX173.out | exact HX172.out | exact HX171.out | exact HX170.out | exact (Below.refl _ _).drew | exact Below.refl _ _)), HC3.out _ (bnext HBr.out (by first | exact HX173.out | exact HX172.out | exact HX171.out | exact HX170.out | exact (Below.refl _ _).drew | exact Below.refl _ _)), (bxn BX5r.out (by first | exact HX173.out | exact HX172.out | exact HX171.out | exact HX170.out | exact (Below.refl _ _).drew | exact Below.refl _ _)).cell⟩ | fail) (first | (go_at_call 17; refine (HLI.out _ (bnext HBr.out (by first | exact HX173.out | exact HX172.out | exact HX171.out | exact HX170.out | exact (Below.refl _ _).drew | exact Below.refl _ _))).mono ?_; rintro e w170 ⟨A170, c170, ss170, rfl, hl170, hb170⟩; have HL170 := hid hl170; have HX170 := hid (show Below wr.heap.size wr w170 from bnext (by first | exact HX173.out | exact HX172.out | exact HX171.out | exact HX170.out | exact (Below.refl _ _).drew | exact Below.refl _ _) hb170); clear hl170 hb170) | (go_at_call 18; refine (HTX.out _ (bnext HBr.out (by first | exact HX173.out | exact HX172.out | exact HX171.out | exact HX170.out | exact (Below.refl _ _).drew | exact Below.refl _ _))).mono ?_; rintro e w171 ⟨A171, c171, rfl, ho171, hb171⟩; have HP171 := hid (Copies.mk' (c4 := c171) HL170.out hb171 (by rw [← HNl.out]; exact ho171)); have HX171 := hid (bnext HX170.out hb171); clear ho171 hb171) | (go_at_call 38; refine (HCP3.out A5 c5 _ (rdn HR5r.out (by first | exact HX173.out | exact HX172.out | exact HX171.out | exact HX170.out | exact (Below.refl _ _).drew | exact Below.refl _ _))).mono ?_; rintro e w172 ⟨A172, c172, rfl, ho172, hb172⟩; have HT172 := hid (show Nds w172 w172.heap.size A172 L3 from Reads.of_own (by rw [← HN3.out]; exact ho172)); have HP172 := hid (HP171.out.below hb172); have HX172 := hid (bnext HX171.out hb172); clear ho172 hb172) | (go_at_call 40; refine (HAX.out _ _ _ _ _ _ _ _ HP172.out HT172.out).mono ?_; rintro e w173 ⟨rfl, hb173⟩; have HX173 := hid (bnext HX172.out hb173); have HB173 := hid (bnext HBr.out HX173.out); clear hb173))
        clear q0 q1 q3 y1
        go_wp2_with (first | (go_at_call 16; refine (HWK.out _).mono ?_; rintro e w25 ⟨rfl, hb25⟩; have HB25 := hid (bnext HB173.out hb25); clear hb25))
        go_ret
        exact ⟨rfl, HW.out _ HB25.out⟩
end Go.Proofs.Ytddbnggficlcfaa

namespace Go.Proofs.Ytddbnggficlcfaa
open Go.ChangeShapes Go.WideShapes Go.ChangeAt Go.RowKit Go.Joins Go.Deep
theorem max63 {n : Nat} (h : n ≤ maxLen) : n ≤ 9223372036854775807 := h
theorem wf63 {n : Int} (h : (Lit.int .i64 n).wf = true) : -9223372036854775808 ≤ n ∧ n ≤ 9223372036854775807 := by
  simp only [Lit.wf, Bool.and_eq_true, decide_eq_true_eq] at h
  exact h
set_option maxRecDepth 100000 in
theorem twice_lifted (os : Os) (started : os.Started) (H : Type) (enc : TypeId × Value → H) :
    ReturnsInHanded {} Try.checked os 14 .any (Rows.groupsTwiceSpec.pre6 enc Try.prog Try.f14 Rows.groupsTwiceRow.domain false) (Rows.groupsTwiceSpec.post enc Try.prog Try.f14 false true false false) := by
  refine returnsInHanded_of_change (C := Try.checked) row_own started (by kernel_rfl) Try.func14
    (ChangeSpec.witness6 (enc := enc) (C := Try.checked) false ⟨#[], #[.agg #[.int .i64 0, .slice none 0 0, .slice none 0 0]], []⟩ 8 (by kernel_rfl) (by kernel_rfl) (by kernel_rfl) (by kernel_rfl)) ?_
  intro W base args ds gs before hval0 hW hcnd _
  have hval : ∀ (j : Nat) t v, Try.f14.params[j]? = some t → args[j]? = some v → Value.okWide Try.prog W .any base t v := hval0
  have hW' := hW
  obtain ⟨p, q, hA0, hV, rfl, hfz, hnd⟩ := hW
  have hA : DataW.TrodAll enc Try.prog W 0 (fun _ => true) true Try.f14.params.toList args.toList ds p := hA0
  rw [Try.params14] at hA hval
  obtain ⟨v0, vs0, d0, ds0, p0, q0, hargs, rfl, rfl, h0, r0⟩ := trodAll_cons hA
  obtain ⟨rfl, rfl, rfl⟩ := trodAll_nil r0
  obtain rfl : args = #[v0] := by cases args; simp_all
  obtain ⟨rfl, rfl⟩ := trodVars_none hV
  have k0 := h0
  have lt0 : ∀ x ∈ p0, x.block < W.heap.size := by obtain ⟨m, hm⟩ := k0; exact DataW.trod_lt m _ _ _ hm
  obtain ⟨P, A, A2, ss, l, c, c2, rfl, hl, hv, hn, rs, rn⟩ := open_paper (hval 0 _ v0 rfl rfl) h0
  clear hA0 hval0
  refine (twice_law P ss l A A2 c c2 (max63 hl) (fun s hs => max63 (hv s hs)) W rs rn).mono fun e W' ⟨he, bel⟩ => ?_
  subst he
  exact ⟨_, rfl, _, _, _, [], _, [], hW', trodAll_mk1 (shut_bool Try.underlying4 _), (trodAll_cons_mk (Below.trod row_laid (by kernel_rfl) (of_decide_eq_true (by kernel_rfl)) k0 bel lt0) trodAll_mk0), rfl, bel.frame _, fun h => by cases h⟩
theorem twice_holds : Rows.GroupsTwiceSaid :=
  OpenClaim.holds_of_wide 14 Try.f14 rfl rfl rfl rfl rfl rfl rfl ⟨rfl, rfl, rfl, rfl, rfl⟩ rfl rfl rfl rfl rfl (by kernel_rfl) Try.func14 (by kernel_rfl)
    (of_decide_eq_true (by kernel_rfl)) (by unfold Func.isWrapper; first | (rw [if_pos (by decide +kernel)]; kernel_rfl) | (rw [if_neg (by decide +kernel)]; exact ⟨rfl, rfl⟩))
    (fun os started H enc _ => twice_lifted os started H enc)
#print axioms twice_holds
end Go.Proofs.Ytddbnggficlcfaa
