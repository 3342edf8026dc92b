/- PLAIN LAW: each box of a layout is placed and within its line; which boxes are those of an Over. -/
import Derived.Test.YtfkcpcdndleboaaItL
namespace Go.Proofs.Ytfkcpcdndleboaa
theorem stands_ok {len : Int} (hl : 0 ≤ len) : ∀ (xs : List Fr) (k : Nat) (st : Int × Int), StOk len k st → (∀ x ∈ xs, LgOk x) → ∀ c ∈ stands len xs st, 0 ≤ c.1 ∧ c.1 ≤ k + xs.length ∧ 0 ≤ c.2 ∧ c.2 ≤ len
  | [], _, _, _, _, c, h => by simp [stands] at h
  | x :: xs, k, st, hs, hx, c, h => by
    rw [stands] at h
    have h1 := hx x (by simp)
    rw [List.length_cons]
    rcases List.mem_cons.1 h with rfl | h
    · obtain ⟨⟨a1, a2⟩, a3, a4⟩ := stq_ok hl hs h1
      exact ⟨a1, by omega, a3, a4⟩
    · obtain ⟨a1, a2, a3, a4⟩ := stands_ok hl xs (k + 1) _ (stn_ok hl hs h1) (fun y hy => hx y (by simp [hy])) c h
      exact ⟨a1, by omega, a3, a4⟩
/-- What is known of an item. -/
structure ItOk (ss : List Sg) (l : List Nd) (rows : Bool) (t : Itm) : Prop where
  g : t.g < l.length
  p : t.p ∈ spotsN ss l rows l.length t.g 0 0
  l0 : 0 ≤ t.c.1
  l1 : t.c.1 ≤ 200
  a0 : 0 ≤ t.c.2
  a1 : t.c.2 ≤ 4800
theorem it_ok {P : Int} {ss : List Sg} {l : List Nd} {rows : Bool} (hp : Pln P ss l) {len : Int} (h0 : 0 ≤ len) (h1 : len ≤ 4800) : ∀ t ∈ layIt ss l rows len, ItOk ss l rows t := fun t ht => by
  unfold layIt at ht
  obtain ⟨L, hL, ht⟩ := List.mem_flatten.1 ht
  obtain ⟨x, hx, rfl⟩ := List.mem_map.1 hL
  obtain ⟨hx1, hx2⟩ := List.of_mem_zip hx
  unfold grpIt at ht
  obtain ⟨p, hp1, rfl⟩ := List.mem_map.1 ht
  unfold layS at hx2
  obtain ⟨a1, a2, a3, a4⟩ := stands_ok h0 _ 0 (0, 0) ⟨Int.le_refl _, by simp, Int.le_refl _, by show (0 : Int) ≤ len + 26424; omega⟩ (fun y hy => by
    obtain ⟨i, hi, rfl⟩ := List.mem_map.1 hy
    exact gL_ok hp (grp_mem hi)) _ hx2
  have hk := kidsOf_len (l := l) (node := -1) (by omega)
  have hn := hp.len
  rw [List.length_map] at a2
  exact ⟨grp_mem hx1, hp1, a1, by show x.2.1 ≤ 200; omega, a3, by show x.2.2 ≤ 4800; omega⟩
/-- A placed box. -/
structure Bxv.placed (b : Bxv) : Prop where
  x : b.x.ok
  y : b.y.ok
  w : b.w.ok
  h : b.h.ok
  w0 : 0 < b.w.n
  h0 : 0 < b.h.n
  xe : b.xe.ok
  ye : b.ye.ok
theorem pl_ok {s : Fr} (hs : ScOk s) {rows : Bool} {c : Int × Int} {cr v : Int} (l0 : 0 ≤ c.1) (l1 : c.1 ≤ 200) (a0 : 0 ≤ c.2) (a1 : c.2 ≤ 4800) (c0 : 0 ≤ cr) (c1 : cr * s.n ≤ 48 * s.d) (v0 : 0 ≤ v) (v1 : v ≤ 26400) : (plX rows s c cr v).ok ∧ (plY rows s c cr v).ok := by
  have h1 := plA_ok hs a0 a1 v0 v1
  have h2 := plC_ok hs l0 l1 c0 c1 v0 v1
  unfold plX plY
  cases rows with
  | true => rw [if_pos rfl, if_pos rfl]; exact ⟨h1, h2⟩
  | false => rw [if_neg (by decide), if_neg (by decide)]; exact ⟨h2, h1⟩
theorem it_placed {P : Int} {ss : List Sg} {l : List Nd} {rows : Bool} (hp : Pln P ss l) {t : Itm} (h : ItOk ss l rows t) (way : Int) : (t.box ss l rows way).placed := by
  have hs := gS_ok (rows := rows) hp h.g
  have hc := gCr_ok (rows := rows) hp h.g
  obtain ⟨⟨p1, p2, p3, p4⟩, p5, p6⟩ := spot_bd hp h.g h.p
  have hz := gZ_ok (rows := rows) hp h.g
  have b1 := hz.b1; have b2 := hz.b2
  have pl := fun (v : Int) (v0 : 0 ≤ v) (v1 : v ≤ 26400) => pl_ok (rows := rows) hs h.l0 h.l1 h.a0 h.a1 (by omega) hc.2.2 v0 v1
  unfold Itm.box
  have ex := box_x (way := way) (rows := rows) (c := t.c) (cr := gCr ss l rows t.g) (n := nd l t.p.node) (p := t.p) hs
  have exe := box_xe (way := way) (rows := rows) (c := t.c) (cr := gCr ss l rows t.g) (n := nd l t.p.node) (p := t.p) hs
  have eye := box_ye (way := way) (rows := rows) (c := t.c) (cr := gCr ss l rows t.g) (n := nd l t.p.node) (p := t.p) hs
  have x1 := (pl t.p.x p1 (by omega)).1; have x2 := (pl (t.p.x + t.p.w) (by omega) (by omega)).1
  have y1 := (pl t.p.y p2 (by omega)).2; have y2 := (pl (t.p.y + t.p.h) (by omega) (by omega)).2
  have lw := len_ok hs (v := t.p.w) (by omega) (by omega)
  have lh := len_ok hs (v := t.p.h) (by omega) (by omega)
  refine ⟨?_, y1, lw.1, lh.1, lw.2, lh.2, ?_, ?_⟩
  · rw [ex]
    split
    · exact neg_ok x2
    · exact x1
  · rw [exe]
    split
    · exact neg_ok x1
    · exact x2
  · rw [eye]; exact y2
/-- What the law looks at: numerator, denominator and size of a box across its line. -/
def lnN (way : Int) (b : Bxv) : Int := if 2 < way then (if way = 4 then -b.x.n * b.w.d - b.w.n * b.x.d else b.x.n) else b.y.n
def lnD (way : Int) (b : Bxv) : Int := if 2 < way then (if way = 4 then b.x.d * b.w.d else b.x.d) else b.y.d
def lnS (way : Int) (b : Bxv) : Fr := if 2 < way then b.w else b.h
structure Bxv.within (way : Int) (b : Bxv) : Prop where
  d0 : 0 < lnD way b
  n0 : 0 ≤ lnN way b
  fit : lnN way b * (lnS way b).d + (lnS way b).n * lnD way b ≤ (72 * (lnN way b / lnD way b / 72) + 48) * lnD way b * (lnS way b).d
theorem it_within {P : Int} {ss : List Sg} {l : List Nd} {way : Int} {rows : Bool} (hr : rows = decide (way ≤ 2)) (hw : 1 ≤ way ∧ way ≤ 4) (hp : Pln P ss l) {t : Itm} (h : ItOk ss l rows t) : (t.box ss l rows way).within way := by
  have hs := gS_ok (rows := rows) hp h.g
  have hc := gCr_ok (rows := rows) hp h.g
  obtain ⟨⟨p1, p2, p3, p4⟩, p5, p6⟩ := spot_bd hp h.g h.p
  have sd := hs.d0
  have key : ∀ (v w n d : Int), 0 ≤ v → 0 < w → v + w ≤ gCr ss l rows t.g → 0 < d → n * (2 * (gS ss l rows t.g).d) = (144 * t.c.1 * (gS ss l rows t.g).d + 48 * (gS ss l rows t.g).d - gCr ss l rows t.g * (gS ss l rows t.g).n + 2 * v * (gS ss l rows t.g).n) * d →
      0 ≤ n ∧ n * (frR (w * (gS ss l rows t.g).n) (gS ss l rows t.g).d).d + (frR (w * (gS ss l rows t.g).n) (gS ss l rows t.g).d).n * d ≤ (72 * (n / d / 72) + 48) * d * (frR (w * (gS ss l rows t.g).n) (gS ss l rows t.g).d).d := by
    intro v w n d v0 w0 vw d0 e
    have h1 := in_line hs h.l0 v0 w0 vw hc.2.2 d0 e
    rw [h1.2.1]
    exact ⟨h1.1, h1.2.2⟩
  unfold Itm.box
  by_cases h2 : way ≤ 2
  · have hrt : rows = true := by rw [hr]; exact decide_eq_true h2
    subst hrt
    have ecr : gCr ss l true t.g = (gZ ss l true t.g).2 := rfl
    have e1 : lnN way (boxOf way true (gS ss l true t.g) t.c (gCr ss l true t.g) (nd l t.p.node) t.p) = (plC (gS ss l true t.g) t.c.1 (gCr ss l true t.g) t.p.y).n := by unfold lnN; rw [if_neg (by omega)]; rfl
    have e2 : lnD way (boxOf way true (gS ss l true t.g) t.c (gCr ss l true t.g) (nd l t.p.node) t.p) = (plC (gS ss l true t.g) t.c.1 (gCr ss l true t.g) t.p.y).d := by unfold lnD; rw [if_neg (by omega)]; rfl
    have e3 : lnS way (boxOf way true (gS ss l true t.g) t.c (gCr ss l true t.g) (nd l t.p.node) t.p) = frR (t.p.h * (gS ss l true t.g).n) (gS ss l true t.g).d := by unfold lnS; rw [if_neg (by omega)]; rfl
    have d0 : 0 < (plC (gS ss l true t.g) t.c.1 (gCr ss l true t.g) t.p.y).d := frR_pos (by omega)
    have k := key t.p.y t.p.h _ _ p2 (by omega) (by rw [ecr]; exact p6) d0 (frR_cross (by omega))
    exact ⟨by rw [e2]; exact d0, by rw [e1]; exact k.1, by rw [e1, e2, e3]; exact k.2⟩
  · have hrf : rows = false := by rw [hr]; exact decide_eq_false h2
    subst hrf
    have ecr : gCr ss l false t.g = (gZ ss l false t.g).1 := rfl
    have e3 : lnS way (boxOf way false (gS ss l false t.g) t.c (gCr ss l false t.g) (nd l t.p.node) t.p) = frR (t.p.w * (gS ss l false t.g).n) (gS ss l false t.g).d := by unfold lnS; rw [if_pos (by omega)]; rfl
    have ex := box_x (way := way) (rows := false) (c := t.c) (cr := gCr ss l false t.g) (n := nd l t.p.node) (p := t.p) hs
    by_cases h4 : way = 4
    · rw [if_pos (by omega), if_neg (by decide)] at ex
      have e1 : lnN way (boxOf way false (gS ss l false t.g) t.c (gCr ss l false t.g) (nd l t.p.node) t.p) = (plC (gS ss l false t.g) t.c.1 (gCr ss l false t.g) (t.p.x + t.p.w)).n * (frR (t.p.w * (gS ss l false t.g).n) (gS ss l false t.g).d).d - (frR (t.p.w * (gS ss l false t.g).n) (gS ss l false t.g).d).n * (plC (gS ss l false t.g) t.c.1 (gCr ss l false t.g) (t.p.x + t.p.w)).d := by
        unfold lnN
        rw [if_pos (by omega), if_pos h4, ex, box_w]
        unfold Fr.neg
        simp only [Int.neg_neg]
      have e2 : lnD way (boxOf way false (gS ss l false t.g) t.c (gCr ss l false t.g) (nd l t.p.node) t.p) = (plC (gS ss l false t.g) t.c.1 (gCr ss l false t.g) (t.p.x + t.p.w)).d * (frR (t.p.w * (gS ss l false t.g).n) (gS ss l false t.g).d).d := by
        unfold lnD
        rw [if_pos (by omega), if_pos h4, ex, box_w]
        rfl
      have q1 : (plC (gS ss l false t.g) t.c.1 (gCr ss l false t.g) (t.p.x + t.p.w)).n * (2 * (gS ss l false t.g).d) = (144 * t.c.1 * (gS ss l false t.g).d + 48 * (gS ss l false t.g).d - gCr ss l false t.g * (gS ss l false t.g).n + 2 * (t.p.x + t.p.w) * (gS ss l false t.g).n) * (plC (gS ss l false t.g) t.c.1 (gCr ss l false t.g) (t.p.x + t.p.w)).d := frR_cross (by omega)
      have q2 : (frR (t.p.w * (gS ss l false t.g).n) (gS ss l false t.g).d).n * (gS ss l false t.g).d = t.p.w * (gS ss l false t.g).n * (frR (t.p.w * (gS ss l false t.g).n) (gS ss l false t.g).d).d := frR_cross sd
      have q3 : 0 < (plC (gS ss l false t.g) t.c.1 (gCr ss l false t.g) (t.p.x + t.p.w)).d := frR_pos (by omega)
      have q4 : 0 < (frR (t.p.w * (gS ss l false t.g).n) (gS ss l false t.g).d).d := frR_pos sd
      have k := key t.p.x t.p.w ((plC (gS ss l false t.g) t.c.1 (gCr ss l false t.g) (t.p.x + t.p.w)).n * (frR (t.p.w * (gS ss l false t.g).n) (gS ss l false t.g).d).d - (frR (t.p.w * (gS ss l false t.g).n) (gS ss l false t.g).d).n * (plC (gS ss l false t.g) t.c.1 (gCr ss l false t.g) (t.p.x + t.p.w)).d) ((plC (gS ss l false t.g) t.c.1 (gCr ss l false t.g) (t.p.x + t.p.w)).d * (frR (t.p.w * (gS ss l false t.g).n) (gS ss l false t.g).d).d) p1 (by omega) (by rw [ecr]; exact p5) (Int.mul_pos q3 q4) (by
        generalize plC (gS ss l false t.g) t.c.1 (gCr ss l false t.g) (t.p.x + t.p.w) = X at *
        generalize frR (t.p.w * (gS ss l false t.g).n) (gS ss l false t.g).d = W at *
        generalize gS ss l false t.g = s at *
        generalize 144 * t.c.1 * s.d + 48 * s.d - gCr ss l false t.g * s.n = K at *
        have r1 : 2 * (t.p.x + t.p.w) * s.n = 2 * t.p.x * s.n + 2 * (t.p.w * s.n) := by rw [Int.mul_add, Int.add_mul, Int.mul_assoc 2 t.p.w]
        rw [r1] at q1
        rw [Int.sub_mul]
        have r2 : X.n * W.d * (2 * s.d) = X.n * (2 * s.d) * W.d := by ac_rfl
        have r3 : W.n * X.d * (2 * s.d) = 2 * (W.n * s.d) * X.d := by ac_rfl
        rw [r2, r3, q1, q2]
        have r4 : 2 * (t.p.w * s.n * W.d) * X.d = 2 * (t.p.w * s.n) * (X.d * W.d) := by ac_rfl
        have r5 : (K + (2 * t.p.x * s.n + 2 * (t.p.w * s.n))) * X.d * W.d = (K + 2 * t.p.x * s.n) * (X.d * W.d) + 2 * (t.p.w * s.n) * (X.d * W.d) := by rw [Int.mul_assoc, ← Int.add_assoc, Int.add_mul (K + 2 * t.p.x * s.n)]
        rw [r4, r5]
        omega)
      exact ⟨by rw [e2]; exact Int.mul_pos q3 q4, by rw [e1]; exact k.1, by rw [e1, e2, e3]; exact k.2⟩
    · have h3 : way = 3 := by omega
      rw [if_neg (by omega), if_neg (by decide)] at ex
      have e1 : lnN way (boxOf way false (gS ss l false t.g) t.c (gCr ss l false t.g) (nd l t.p.node) t.p) = (plC (gS ss l false t.g) t.c.1 (gCr ss l false t.g) t.p.x).n := by unfold lnN; rw [if_pos (by omega), if_neg h4, ex]
      have e2 : lnD way (boxOf way false (gS ss l false t.g) t.c (gCr ss l false t.g) (nd l t.p.node) t.p) = (plC (gS ss l false t.g) t.c.1 (gCr ss l false t.g) t.p.x).d := by unfold lnD; rw [if_pos (by omega), if_neg h4, ex]
      have d0 : 0 < (plC (gS ss l false t.g) t.c.1 (gCr ss l false t.g) t.p.x).d := frR_pos (by omega)
      have k := key t.p.x t.p.w _ _ p1 (by omega) (by rw [ecr]; exact p5) d0 (frR_cross (by omega))
      exact ⟨by rw [e2]; exact d0, by rw [e1]; exact k.1, by rw [e1, e2, e3]; exact k.2⟩
end Go.Proofs.Ytfkcpcdndleboaa

/- PLAIN LAW: the numbers of the boxes of a layout. -/
namespace Go.Proofs.Ytfkcpcdndleboaa
/-- How many nodes before x have boxes. -/
def cV (l : List Nd) (x : Nat) : Nat := (vsn l (List.range' 0 x)).length
theorem cV_s (l : List Nd) (x : Nat) : cV l (x + 1) = cV l x + if visB (kd l x) = true then 1 else 0 := by
  unfold cV
  have e : List.range' 0 (x + 1) = List.range' 0 x ++ [x] := by
    have := range_cut (a := 0) (b := x) (c := x + 1) (by omega) (by omega)
    rw [Nat.sub_zero, Nat.sub_zero, show x + 1 - x = 1 by omega, List.range'_one] at this
    exact this
  rw [e]
  unfold vsn
  rw [List.filter_append, List.length_append, List.filter_cons]
  split <;> simp
theorem vsn_cut {l : List Nd} {n x : Nat} (hx : x < n) (hv : visB (kd l x) = true) : vsn l (List.range' 0 n) = vsn l (List.range' 0 x) ++ x :: vsn l (List.range' (x + 1) (n - (x + 1))) := by
  have e1 := range_cut (a := 0) (b := x) (c := n) (by omega) (by omega)
  have e2 := range_cut (a := x) (b := x + 1) (c := n) (by omega) (by omega)
  rw [Nat.sub_zero, Nat.sub_zero] at e1
  rw [show x + 1 - x = 1 by omega, List.range'_one] at e2
  rw [e1, e2]
  unfold vsn
  rw [List.filter_append, List.singleton_append, List.filter_cons, if_pos hv]
theorem vsn_at {l : List Nd} {n x : Nat} (hx : x < n) (hv : visB (kd l x) = true) : (vsn l (List.range' 0 n))[cV l x]? = some x := by
  rw [vsn_cut hx hv]
  unfold cV
  rw [List.getElem?_append_right (Nat.le_refl _), Nat.sub_self]
  rfl
theorem vsn_idx {l : List Nd} {n x j : Nat} (h : (vsn l (List.range' 0 n))[j]? = some x) : cV l x = j ∧ x < n ∧ visB (kd l x) = true := by
  have hm := List.mem_of_getElem? h
  have hm2 : x ∈ List.range' 0 n ∧ visB (kd l x) = true := by
    unfold vsn at hm
    exact List.mem_filter.1 hm
  have hx : x < n := by have := hm2.1; simp at this; omega
  have h2 := vsn_at hx hm2.2
  have hn : (vsn l (List.range' 0 n)).Nodup := by
    unfold vsn
    exact (List.nodup_range' (s := 0) (n := n)).filter _
  obtain ⟨a1, a2⟩ := List.getElem?_eq_some_iff.1 h
  obtain ⟨b1, b2⟩ := List.getElem?_eq_some_iff.1 h2
  refine ⟨?_, hx, hm2.2⟩
  exact (List.getElem_inj hn).1 (b2.trans a2.symm)
theorem it_nodes {P : Int} {ss : List Sg} {l : List Nd} {rows : Bool} (hp : Pln P ss l) (len : Int) : (layIt ss l rows len).map (fun t => t.p.node) = vsn l (List.range' 0 l.length) := by
  have h1 : ∀ (ks : List Nat) (cs : List (Int × Int)), (∀ k ∈ ks, k < l.length) → cs.length = ks.length → ((List.zip ks cs).map fun x => grpIt ss l rows x.1 x.2).flatten.map (fun t => t.p.node) = ks.flatMap fun k => vsn l (List.range' k (endOf l k - k)) := by
    intro ks
    induction ks with
    | nil => intro cs _ _; rfl
    | cons k ks ih =>
      intro cs hk hc
      cases cs with
      | nil => simp at hc
      | cons c cs =>
        rw [List.zip_cons_cons, List.map_cons, List.flatten_cons, List.map_append, ih cs (fun j hj => hk j (by simp [hj])) (by simpa using hc), List.flatMap_cons]
        congr 1
        unfold grpIt
        rw [List.map_map, ← spots_nodes (rows := rows) hp l.length k (hk k (by simp)) (by omega) 0 0]
        rfl
  have hk : ∀ k ∈ kidsOf l (-1), k < l.length := fun k hk => grp_mem hk
  unfold layIt
  rw [h1 _ _ hk (by unfold layS; rw [stands_len, List.length_map]), kidsOf_top]
  unfold kidsFrom
  exact kids_part (l := l) _ 0 (by omega) (by omega) (fun x _ hx => endOf_le hx) fun x _ hx => rfl
theorem it_count {P : Int} {ss : List Sg} {l : List Nd} {rows : Bool} (hp : Pln P ss l) (len : Int) : (layIt ss l rows len).length = cV l l.length := by
  have := congrArg List.length (it_nodes (rows := rows) hp len)
  rwa [List.length_map] at this
theorem it_at {P : Int} {ss : List Sg} {l : List Nd} {rows : Bool} (hp : Pln P ss l) {len : Int} {j : Nat} (hj : j < (layIt ss l rows len).length) : cV l (layIt ss l rows len)[j].p.node = j ∧ (layIt ss l rows len)[j].p.node < l.length ∧ visB (kd l (layIt ss l rows len)[j].p.node) = true := by
  have h := congrArg (fun L => L[j]?) (it_nodes (rows := rows) hp len)
  simp only [List.getElem?_map, List.getElem?_eq_getElem hj, Option.map_some] at h
  exact vsn_idx h.symm
/-- Two boxes that cross. -/
theorem it_cross {P : Int} {ss : List Sg} {l : List Nd} {rows : Bool} (hp : Pln P ss l) {way len : Int} {i k : Nat} (hik : i < k) (hk : k < (layIt ss l rows len).length)
    (hc : crossP ((layIt ss l rows len)[i].box ss l rows way) ((layIt ss l rows len)[k].box ss l rows way)) :
    holdsP ((layIt ss l rows len)[i].box ss l rows way) ((layIt ss l rows len)[k].box ss l rows way) ∧ (kd l (layIt ss l rows len)[i].p.node = 5 ∨ (k = i + 1 ∧ ∃ o, o < l.length ∧ kd l o = 4 ∧ cV l o = i)) := by
  have h := List.pairwise_iff_getElem.1 (lay_pair (rows := rows) hp way len) i k (by omega) hk hik hc
  refine ⟨h.1, ?_⟩
  rcases h.2 with h5 | ⟨h1, h4, hq⟩
  · exact .inl h5
  · obtain ⟨i1, i2, i3⟩ := it_at (rows := rows) hp (len := len) (j := i) (by omega)
    obtain ⟨k1, k2, k3⟩ := it_at (rows := rows) hp (len := len) (j := k) hk
    right
    generalize (layIt ss l rows len)[i].p.node = a at *
    generalize (layIt ss l rows len)[k].p.node = b at *
    subst hq
    have e1 := cV_s l a
    rw [if_pos i3] at e1
    refine ⟨by omega, a - 1, by omega, h4, ?_⟩
    have e2 := cV_s l (a - 1)
    rw [show a - 1 + 1 = a by omega, h4, if_neg (by decide)] at e2
    omega
end Go.Proofs.Ytfkcpcdndleboaa

/- PLAIN LAW: where a node of a text stands in the plain text. -/
namespace Go.Proofs.Ytfkcpcdndleboaa
/-- A valid text's plain text. -/
theorem pln_of {P : Int} {ss : List Sg} {l : List Nd} (h : chkE P ss l = 0) : Pln P ss (plR l l.length) := by
  obtain ⟨h1, h2, h3⟩ := val_of h
  refine ⟨h1, h3.plain, Nat.le_trans (plR_len l _) h2, fun i hi hk => ?_⟩
  rw [kd_at hi] at hk
  exact plR_no7 _ _ (List.getElem_mem hi) hk
/-- How many of the first k nodes are not in the plain text. -/
def goneN (l : List Nd) : Nat → Nat
  | 0 => 0
  | k + 1 => if dep l k ≠ 0 ∧ kd l k = 7 then goneN l k + 1 else goneN l k
theorem gone_le (l : List Nd) : ∀ k, goneN l k ≤ k
  | 0 => Nat.le_refl _
  | k + 1 => by
    have := gone_le l k
    unfold goneN
    split <;> omega
theorem plR_gone (l : List Nd) : ∀ k, (plR l k).length + goneN l k = k
  | 0 => rfl
  | k + 1 => by
    have ih := plR_gone l k
    unfold plR goneN
    by_cases h : dep l k ≠ 0 ∧ kd l k = 7
    · rw [if_pos h, if_pos h]; omega
    · rw [if_neg h, if_neg h, List.length_append, List.length_singleton]; omega
theorem plR_pre (l : List Nd) {k : Nat} : ∀ n, ∃ t, plR l (k + n) = plR l k ++ t
  | 0 => ⟨[], by simp⟩
  | n + 1 => by
    obtain ⟨t, ht⟩ := plR_pre l (k := k) n
    have e : plR l (k + n + 1) = if dep l (k + n) ≠ 0 ∧ kd l (k + n) = 7 then plR l (k + n) else plR l (k + n) ++ [lowN (inH l (k + n + 1)) (nd l (k + n))] := rfl
    rw [show k + (n + 1) = k + n + 1 from rfl, e, ht]
    split
    · exact ⟨t, rfl⟩
    · exact ⟨t ++ _, List.append_assoc ..⟩
/-- A node that stays. -/
theorem plR_at {l : List Nd} {k m : Nat} (hk : k < m) (h : ¬ (dep l k ≠ 0 ∧ kd l k = 7)) : (plR l m)[k - goneN l k]? = some (lowN (inH l (k + 1)) (nd l k)) := by
  obtain ⟨t, ht⟩ := plR_pre l (k := k + 1) (m - (k + 1))
  rw [show k + 1 + (m - (k + 1)) = m by omega] at ht
  have e : plR l (k + 1) = if dep l k ≠ 0 ∧ kd l k = 7 then plR l k else plR l k ++ [lowN (inH l (k + 1)) (nd l k)] := rfl
  rw [e, if_neg h] at ht
  have hl := plR_gone l k
  rw [ht, List.append_assoc, List.getElem?_append_right (by omega), show k - goneN l k - (plR l k).length = 0 by omega]
  rfl
/-- An Honour that is no group stands behind its ring. -/
theorem hon_behind {ss : List Sg} {l : List Nd} (hv : Val ss l) {k : Nat} (hk : k < l.length) (h7 : kd l k = 7) (hd : dep l k ≠ 0) : ∃ p, k = p + 1 ∧ kd l p = 5 ∧ dep l p = 0 ∧ goneN l p + 0 = goneN l k := by
  obtain ⟨p, hp, h5, h0, hm, h1, _⟩ := hon_in hv hk h7 hd
  have hw := hv.good.wf
  have hm2 := (kid_iff hw (i := p) (x := k) (by omega)).1 hm
  have hm1 : p + 1 ∈ kidsOf l (p : Int) := by
    refine (kid_iff hw (by omega)).2 ⟨by omega, by omega, ?_, fun j hj1 hj2 => hm2.2.2.2 j hj1 (by omega)⟩
    have e1 := hm2.2.2.2 (p + 1) (by omega) (by omega)
    have e2 := hw.step p (by omega)
    omega
  obtain ⟨a, ha⟩ := List.length_eq_one_iff.1 h1
  rw [ha] at hm hm1
  simp only [List.mem_cons, List.not_mem_nil, or_false] at hm hm1
  refine ⟨p, by omega, h5, h0, ?_⟩
  have e : goneN l (p + 1) = if dep l p ≠ 0 ∧ kd l p = 7 then goneN l p + 1 else goneN l p := rfl
  rw [show k = p + 1 by omega, e, if_neg (fun h => h.1 h0)]
  rfl
end Go.Proofs.Ytfkcpcdndleboaa
