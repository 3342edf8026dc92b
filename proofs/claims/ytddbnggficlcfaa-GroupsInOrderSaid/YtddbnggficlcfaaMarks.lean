/- PLAIN LAW: the line of two texts one behind the other. -/
import Derived.Test.YtddbnggficlcfaaGrp
import Derived.Test.YtddbnggficlcfaaLine2
import Derived.Test.YtddbnggficlcfaaLinesE
namespace Go.Proofs.Ytddbnggficlcfaa
theorem mkAt_l {x y : List Nd} {i : Nat} (h : i < x.length) : mkAt (x ++ y) i = mkAt x i := by unfold mkAt; rw [List.getElem?_append_left h]
theorem mkAt_r {x y : List Nd} {i : Nat} : mkAt (x ++ y) (x.length + i) = mkAt y i := by unfold mkAt; rw [List.getElem?_append_right (by omega), Nat.add_sub_cancel_left]
/-- The leaves in groups. -/
theorem leaves_kids (l : List Nd) : leaves l = (kidsOf l (-1)).flatMap fun k : Nat => lvs l l.length (k : Int) := by
  have h1 := lvs_no (l := l) (f := l.length) (node := -1) (fun h => by have := h.1; omega)
  have h2 : ordK l (-1) = kidsOf l (-1) := if_neg (fun h => by have := h.1; omega)
  rw [h2] at h1
  unfold dn at h1
  rw [List.take_length] at h1
  exact h1
/-- More fuel than nodes changes nothing. -/
theorem lvs_fuel {l : List Nd} : ∀ (f g i : Nat), i < l.length → l.length ≤ f + i → l.length ≤ g + i → lvs l f (i : Int) = lvs l g (i : Int)
  | 0, _, i, h, h1, _ => by omega
  | _ + 1, 0, i, h, _, h2 => by omega
  | f + 1, g + 1, i, h, h1, h2 => by
    unfold lvs
    split
    · rfl
    · unfold List.flatMap
      congr 1
      refine List.map_congr_left fun k hk => ?_
      have := kidsOf_mem (l := l) (node := (i : Int)) (by omega) (by omega) (ordK_mem hk)
      exact lvs_fuel f g k (by omega) (by omega) (by omega)
theorem leaves_cat {x y : List Nd} (hy : dep y 0 = 0) (hx : ∀ i, i < x.length → 0 ≤ dep x i) : leaves (x ++ y) = leaves x ++ (leaves y).map (x.length + ·) := by
  rw [leaves_kids, leaves_kids x, leaves_kids y, kids_top hy hx, List.flatMap_append, List.flatMap_map, List.map_flatMap]
  have hkx : ∀ k ∈ kidsOf x (-1), k < x.length := fun k hk => by have := (kidsOf_mem (l := x) (node := -1) (by omega) (by omega) hk).2; omega
  have hky : ∀ k ∈ kidsOf y (-1), k < y.length := fun k hk => by have := (kidsOf_mem (l := y) (node := -1) (by omega) (by omega) hk).2; omega
  congr 1
  · unfold List.flatMap
    congr 1
    refine List.map_congr_left fun k hk => ?_
    rw [lvs_l hy hx _ k (hkx k hk)]
    exact lvs_fuel _ _ k (hkx k hk) (by simp; omega) (by omega)
  · unfold List.flatMap
    congr 1
    refine List.map_congr_left fun k hk => ?_
    rw [lvs_r _ k (hky k hk), lvs_fuel (x ++ y).length y.length k (hky k hk) (by simp; omega) (by omega)]
theorem marks_cat {x y : List Nd} (hy : dep y 0 = 0) (hx : ∀ i, i < x.length → 0 ≤ dep x i) : marks (x ++ y) = marks x ++ marks y := by
  unfold marks
  rw [leaves_cat hy hx, List.map_append, List.map_map]
  congr 1
  · refine List.map_congr_left fun k hk => mkAt_l ?_
    unfold leaves at hk
    exact lvs_mem _ _ (by omega) (by omega) k hk
  · exact List.map_congr_left fun k _ => mkAt_r
/-- The marks of the document's way to splice: of the first k rounds. -/
def mkR (l wt : List Nd) (fr t2 : Int) : Nat → List Mk
  | 0 => []
  | i + 1 => (if (i : Int) = fr then mkR l wt fr t2 i ++ marks wt else mkR l wt fr t2 i) ++ (if i < (kidsOf l (-1)).length ∧ ((i : Int) < fr ∨ t2 ≤ i) then marks (partOf l (posG l i)) else [])
theorem val_nil' (ss : List Sg) : Val ss [] := ⟨fun i h => by simp at h, fun i h => by simp at h⟩
theorem spR_marks {ss : List Sg} {l wt : List Nd} (hl : Val ss l) (hw : Val ss wt) (fr t2 : Int) : ∀ k, Val ss (spR l wt fr t2 k) ∧ marks (spR l wt fr t2 k) = mkR l wt fr t2 k
  | 0 => ⟨val_nil' ss, rfl⟩
  | i + 1 => by
    obtain ⟨h1, h2⟩ := spR_marks hl hw fr t2 i
    have ha : Val ss (if (i : Int) = fr then spR l wt fr t2 i ++ wt else spR l wt fr t2 i) ∧ marks (if (i : Int) = fr then spR l wt fr t2 i ++ wt else spR l wt fr t2 i) = (if (i : Int) = fr then mkR l wt fr t2 i ++ marks wt else mkR l wt fr t2 i) := by
      by_cases h : (i : Int) = fr
      · rw [if_pos h, if_pos h, ← h2]
        exact ⟨h1.cat hw, marks_cat hw.good.wf.first h1.good.wf.pos⟩
      · rw [if_neg h, if_neg h]
        exact ⟨h1, h2⟩
    rw [spR_s]
    by_cases h : i < (kidsOf l (-1)).length ∧ ((i : Int) < fr ∨ t2 ≤ i)
    · have hp : Val ss (partOf l (posG l i)) := by rw [part_str hl.good.wf h.1]; exact hl.str (by omega) (by omega)
      have e : mkR l wt fr t2 (i + 1) = (if (i : Int) = fr then mkR l wt fr t2 i ++ marks wt else mkR l wt fr t2 i) ++ marks (partOf l (posG l i)) := by rw [mkR, if_pos h]
      rw [e, if_pos h, ← ha.2]
      exact ⟨ha.1.cat hp, marks_cat hp.good.wf.first ha.1.good.wf.pos⟩
    · have e : mkR l wt fr t2 (i + 1) = (if (i : Int) = fr then mkR l wt fr t2 i ++ marks wt else mkR l wt fr t2 i) := by rw [mkR, if_neg h, List.append_nil]
      rw [e, if_neg h, List.append_nil]
      exact ha
/-- The line of a text with some groups replaced. -/
theorem spO_marks {ss : List Sg} {l wt : List Nd} (hl : Val ss l) (hw : Val ss wt) {f t : Nat} (h1 : f ≤ t) (h2 : t ≤ (kidsOf l (-1)).length) : Val ss (spO l wt f t) ∧ marks (spO l wt f t) = mkR l wt f t ((kidsOf l (-1)).length + 1) := by
  have := spR_marks hl hw (f : Int) (t : Int) ((kidsOf l (-1)).length + 1)
  rwa [spR_all hl.good.wf h1 h2] at this
end Go.Proofs.Ytddbnggficlcfaa
