/- THE PLAIN LAW OF Lines: the lines of a row of blocks; and what the loops that build them keep. -/
import Derived.Test.YtoljnbbhoeloeaaJoinR
import Derived.Test.YtoljnbbhoeloeaaApW
namespace Go.Proofs.Ytoljnbbhoeloeaa
open Go.RowKit
theorem all_bad {f : Nat → Bool} {i n : Nat} (hi : i < n) (h : f i = false) : (List.range n).all f = false := by
  rw [Bool.eq_false_iff]
  intro hx
  rw [List.all_eq_true] at hx
  have := hx i (List.mem_range.2 hi)
  rw [h] at this
  cases this
theorem all_s {f : Nat → Bool} {i : Nat} (h : (List.range i).all f = true) (h2 : f i = true) : (List.range (i + 1)).all f = true := by
  rw [List.range_succ, List.all_append, h]
  simp [h2]
theorem all_get {f : Nat → Bool} {i n : Nat} (h : (List.range n).all f = true) (hi : i < n) : f i = true := by
  rw [List.all_eq_true] at h
  exact h i (List.mem_range.2 hi)
def rAt (bs : List Bk) (b r : Nat) : List Int := match bs[b]? with
  | some x => (match x.rows[r]? with
    | some t => t.2.2
    | none => [])
  | none => []
theorem rAt_of {bs : List Bk} {b r : Nat} (hb : b < bs.length) (hr : r < bs[b].rows.length) : rAt bs b r = bs[b].rows[r].2.2 := by
  unfold rAt
  rw [List.getElem?_eq_getElem hb]
  simp only []
  rw [List.getElem?_eq_getElem hr]
def catTo (bs : List Bk) (row : List Int) (r i : Nat) : List Int := (row.take i).flatMap fun x => rAt bs x.toNat r
theorem catTo_0 {bs : List Bk} {row : List Int} {r : Nat} : catTo bs row r 0 = [] := rfl
theorem catTo_s {bs : List Bk} {row : List Int} {r i : Nat} (hi : i < row.length) : catTo bs row r (i + 1) = catTo bs row r i ++ rAt bs (nth row i).toNat r := by
  unfold catTo
  rw [List.take_add_one, List.getElem?_eq_getElem hi, Option.toList_some, List.flatMap_append, nth, List.getD, List.getElem?_eq_getElem hi]
  simp
/-- Number j of the row is the number of a block, and was not there before. -/
def posOk (N : Nat) (row : List Int) (j : Nat) : Bool := decide (0 ≤ nth row j ∧ nth row j < N) && !(row.take j).contains (nth row j)
def posTo (N : Nat) (row : List Int) (i : Nat) : Bool := (List.range i).all (posOk N row)
def lnkOk (bs : List Bk) (row : List Int) (j : Nat) : Bool := fitN bs (nth row j).toNat (nth row (j + 1)).toNat
def lnkTo (bs : List Bk) (row : List Int) (i : Nat) : Bool := (List.range i).all (lnkOk bs row)
def shrtOk (bs : List Bk) (row : List Int) (r : Nat) : Bool := decide ((catTo bs row r row.length).length ≤ 60)
def shrtTo (bs : List Bk) (row : List Int) (r : Nat) : Bool := (List.range r).all (shrtOk bs row)
def linErr (bs : List Bk) (row : List Int) : Int := if blksErr bs ≠ 0 then blksErr bs else if posTo bs.length row row.length = false then 1 else if lnkTo bs row (row.length - 1) = false then 82 else if shrtTo bs row (rows0 bs) = false then 2 else 0
def linOut (bs : List Bk) (row : List Int) : List (List Int) := if linErr bs row = 0 then (List.range (rows0 bs)).map fun r => catTo bs row r row.length else []
theorem lin_e1 {bs : List Bk} {row : List Int} (h : blksErr bs ≠ 0) : linErr bs row = blksErr bs ∧ linOut bs row = [] := by
  have : linErr bs row = blksErr bs := if_pos h
  exact ⟨this, if_neg (by rw [this]; exact h)⟩
theorem lin_e2 {bs : List Bk} {row : List Int} (h : blksErr bs = 0) (h2 : posTo bs.length row row.length = false) : linErr bs row = 1 ∧ linOut bs row = [] := by
  have : linErr bs row = 1 := by rw [linErr, if_neg (by simpa using h), if_pos h2]
  exact ⟨this, if_neg (by rw [this]; decide)⟩
theorem lin_e3 {bs : List Bk} {row : List Int} (h : blksErr bs = 0) (h2 : posTo bs.length row row.length = true) (h3 : lnkTo bs row (row.length - 1) = false) : linErr bs row = 82 ∧ linOut bs row = [] := by
  have : linErr bs row = 82 := by rw [linErr, if_neg (by simpa using h), if_neg (by simp [h2]), if_pos h3]
  exact ⟨this, if_neg (by rw [this]; decide)⟩
theorem lin_e4 {bs : List Bk} {row : List Int} (h : blksErr bs = 0) (h2 : posTo bs.length row row.length = true) (h3 : lnkTo bs row (row.length - 1) = true) (h4 : shrtTo bs row (rows0 bs) = false) : linErr bs row = 2 ∧ linOut bs row = [] := by
  have : linErr bs row = 2 := by rw [linErr, if_neg (by simpa using h), if_neg (by simp [h2]), if_neg (by simp [h3]), if_pos h4]
  exact ⟨this, if_neg (by rw [this]; decide)⟩
theorem lin_e5 {bs : List Bk} {row : List Int} (h : blksErr bs = 0) (h2 : posTo bs.length row row.length = true) (h3 : lnkTo bs row (row.length - 1) = true) (h4 : shrtTo bs row (rows0 bs) = true) :
    linErr bs row = 0 ∧ linOut bs row = (List.range (rows0 bs)).map fun r => catTo bs row r row.length := by
  have : linErr bs row = 0 := by rw [linErr, if_neg (by simpa using h), if_neg (by simp [h2]), if_neg (by simp [h3]), if_neg (by simp [h4])]
  exact ⟨this, if_pos this⟩
theorem blks_rows {bs : List Bk} (h : blksErr bs = 0) {b : Bk} (hb : b ∈ bs) : b.rows.length = rows0 bs ∧ b.rows.length ≤ 12 ∧ ∀ t ∈ b.rows, t.2.2.length ≤ 60 := by
  obtain ⟨j, hj, rfl⟩ := List.getElem_of_mem hb
  have h1 := (blks_ok h).2 j hj hj
  unfold blkOk at h1
  simp only [Bool.and_eq_true, decide_eq_true_eq] at h1
  refine ⟨h1.1.1.1.1, h1.1.1.1.2, fun t ht => ?_⟩
  have h2 := h1.2
  by_cases h3 : 60 < t.2.2.length
  · exfalso
    obtain ⟨i, hi, rfl⟩ := List.getElem_of_mem ht
    have hk : i < (sig bs[j].rows).length := by simpa [sig] using hi
    have h4 : lineErr (sig bs[j].rows)[i] ≠ 0 := by
      unfold lineErr
      rw [if_pos (by simpa [sig] using h3)]
      decide
    have h5 : ∀ (ls : List (List Int)), linesErr ls = 0 → ∀ l ∈ ls, lineErr l = 0 := by
      intro ls
      induction ls with
      | nil => intro _ l hl; cases hl
      | cons a ls ih =>
        intro h l hl
        unfold linesErr at h
        split at h
        · rcases List.mem_cons.1 hl with e | e
          · rw [e]; assumption
          · exact ih h l e
        · rename_i h6; exact absurd h h6
    exact h4 (h5 _ h2 _ (List.getElem_mem hk))
  · omega
theorem rAt_len {bs : List Bk} (h : blksErr bs = 0) (b r : Nat) : (rAt bs b r).length ≤ 60 := by
  unfold rAt
  split
  · rename_i x hx
    split
    · rename_i t ht
      exact (blks_rows h (List.mem_of_getElem? hx)).2.2 t (List.mem_of_getElem? ht)
    · simp
  · simp
theorem catTo_len {bs : List Bk} (h : blksErr bs = 0) (row : List Int) (r i : Nat) : (catTo bs row r i).length ≤ row.length * 60 := by
  have h1 := flat_le (g := fun x : Int => rAt bs x.toNat r) (c := 60) (row.take i) fun x _ => rAt_len h _ _
  have h2 : (row.take i).length * 60 ≤ row.length * 60 := Nat.mul_le_mul_right _ (by simp; omega)
  unfold catTo
  omega
/-- What Lines answers. -/
def LinIs (bs : List Bk) (row : List Int) (w : World) (e : Ending) (w' : World) : Prop :=
  ∃ (A' : Option Addr) (c' : Nat) (es : List Ln), e = .returned (.tuple #[.slice A' es.length c', .int .i64 (linErr bs row)]) ∧ Lns w' w'.heap.size A' es ∧ sig es = linOut bs row ∧ Below w.heap.size w w'
theorem lin_none {bs : List Bk} {row : List Int} {w w' : World} {e : Int} (h : linErr bs row = e ∧ linOut bs row = []) (hb : Below w.heap.size w w') : LinIs bs row w (.returned (.tuple #[.slice none 0 0, .int .i64 e])) w' :=
  ⟨none, 0, [], by rw [h.1]; rfl, lns_nil _ _, by rw [h.2]; rfl, hb⟩
/-- The cells of the list: the lines that are done, the one under way, none. -/
def cellsTo (es : List Ln) (v : Value) (j : Nat) : Value := if j = es.length then v else match es[j]? with
  | some t => t.val
  | none => .slice none 0 0
theorem cellsTo_at {es : List Ln} {v : Value} : cellsTo es v es.length = v := if_pos rfl
theorem cellsTo_set {es : List Ln} {v v' : Value} {j : Nat} : (if j = es.length then v' else cellsTo es v j) = cellsTo es v' j := by
  unfold cellsTo
  split <;> rfl
theorem cellsTo_next {es : List Ln} {A : Option Addr} {c : Nat} {cur : List Int} {j : Nat} : cellsTo es (.slice A cur.length c) j = cellsTo (es ++ [(A, c, cur)]) (.slice none 0 0) j := by
  unfold cellsTo
  by_cases h1 : j = es.length
  · rw [if_pos h1, if_neg (by simp; omega), h1, List.getElem?_append_right (Nat.le_refl _)]
    simp [Ln.val]
  · rw [if_neg h1]
    by_cases h2 : j < es.length
    · rw [if_neg (by simp; omega), List.getElem?_append_left h2]
    · rw [List.getElem?_eq_none (by omega)]
      by_cases h3 : j = es.length + 1
      · rw [if_pos (by simpa using h3)]
      · rw [if_neg (by simpa using h3), List.getElem?_eq_none (by simp; omega)]
theorem cellsTo_lt {es : List Ln} {v : Value} {j : Nat} (h : j < es.length) : cellsTo es v j = es[j].val := by
  unfold cellsTo
  rw [if_neg (by omega), List.getElem?_eq_getElem h]
structure LM (w0 : World) (g R M : Nat) (es : List Ln) (v : Value) (cur : List Int) (W : World) : Prop where
  top : W.rowIs g 22 R (cellsTo es v)
  own : W.ownsRow M 3 1 v cur.length (ints cur)
  gM : g < M
  ms : M ≤ W.heap.size
  hg : w0.heap.size ≤ g
  done : ∀ t ∈ es, Ri W t.1 t.2.2
  old : ∀ t ∈ es, ∀ ad, t.1 = some ad → ad.block < M
  bel : Below w0.heap.size w0 W
theorem LM.start {w0 w : World} {R : Nat} (h : Below w0.heap.size w0 w) : LM w0 w.heap.size R (w.heap.size + 1) [] (.slice none 0 0) [] (w.alloc (.cells (madeCells #[.slice none 0 0] R) 22)) where
  top := (World.rowIs_made w (.slice none 0 0) R 22).congr fun i _ => by unfold cellsTo; split <;> simp
  own := World.ownsRow_nil _ _ _ _
  gM := by omega
  ms := by simp
  hg := h.size
  done := fun t ht => by cases ht
  old := fun t ht => by cases ht
  bel := h.alloc h.size _
theorem LM.drewN {w0 W : World} {g R M : Nat} {es : List Ln} {v : Value} {cur : List Int} (h : LM w0 g R M es v cur W) (q : Nat) : LM w0 g R M es v cur (W.drewN q) :=
  ⟨h.top, h.own, h.gM, h.ms, h.hg, fun t ht => (h.done t ht).keep (Fr.of_below (below_drewN (Below.refl _ _) q) (Nat.le_refl _)), h.old, below_drewN h.bel q⟩
theorem LM.app {w0 W W4 : World} {g R M : Nat} {es : List Ln} {v v' : Value} {cur cur' : List Int} (h : LM w0 g R M es v cur W) (ho : W4.ownsRow M 3 1 v' cur'.length (ints cur')) (hg : W.grownBy W4 v.ownBlock) :
    LM w0 g R M es v' cur' (W4.setCell ⟨g, es.length, none⟩ v') := by
  have hgt : g < W.heap.size := Nat.lt_of_lt_of_le h.gM h.ms
  have hne : ∀ k, v.ownBlock = some k → M ≤ k := fun k e => (h.own.lt k e).1
  have hgg := h.gM
  have hgh : W4.heap[g]? = W.heap[g]? := hg.block g hgt fun e => by have := hne g e.symm; omega
  have hoc := ownsRow_setCell_other ho (a := ⟨g, es.length, none⟩) (fun he => by have := (ho.lt _ he).1; simp at this; omega) v'
  refine ⟨((h.top.of_block hgh).set es.length v').congr fun i _ => cellsTo_set, hoc, h.gM, by simpa using Nat.le_trans h.ms hg.size, h.hg, fun t ht => ?_, h.old, ?_⟩
  · refine ri_same (h.done t ht) (by simpa using hg.size) fun ad had => ?_
    have hb := h.old t ht ad had
    obtain ⟨cs, fz, hty⟩ := (h.done t ht).ty ad had
    have hng : ad.block ≠ g := fun e => by
      obtain ⟨cs2, h1, _⟩ := h.top
      rw [e, h1] at hty
      injection hty with hty
      injection hty with _ hty _
      exact absurd hty (by decide)
    rw [Below.heap_setCell _ _ _ _ hng]
    exact hg.block _ (lt_of_block hty) fun e => by have := hne _ e.symm; omega
  · exact (below_app h.bel h.own hg (by have := h.hg; omega) (Nat.le_trans h.hg (by omega))).setCell h.hg _
theorem LM.next {w0 W : World} {g R M : Nat} {es : List Ln} {A : Option Addr} {c : Nat} {cur : List Int} (h : LM w0 g R M es (.slice A cur.length c) cur W) : LM w0 g R W.heap.size (es ++ [(A, c, cur)]) (.slice none 0 0) [] W := by
  have hri : Ri W A cur := by
    refine ⟨Reads.of_own h.own, fun ad had => ?_⟩
    rcases h.own.2 with ⟨h2, _⟩ | ⟨g2, cap, cu, hv, _, hh, _⟩
    · injection h2 with h2
      rw [had] at h2
      cases h2
    · injection hv with hv
      rw [had] at hv
      injection hv with hv
      subst hv
      exact ⟨cu, (0, 0), hh⟩
  refine ⟨h.top.congr fun i _ => cellsTo_next, World.ownsRow_nil _ _ _ _, Nat.lt_of_lt_of_le h.gM h.ms, Nat.le_refl _, h.hg, fun t ht => ?_, fun t ht ad had => ?_, h.bel⟩
  · rcases List.mem_append.1 ht with ht | ht
    · exact h.done t ht
    · rw [List.mem_singleton.1 ht]; exact hri
  · rcases List.mem_append.1 ht with ht | ht
    · exact Nat.lt_of_lt_of_le (h.old t ht ad had) h.ms
    · rw [List.mem_singleton.1 ht] at had
      obtain ⟨cs, fz, hty⟩ := hri.ty ad had
      exact lt_of_block hty
theorem LM.lns {w0 W : World} {g R M : Nat} {es : List Ln} {v : Value} {cur : List Int} (h : LM w0 g R M es v cur W) (hl : es.length = R) : Lns W W.heap.size (some ⟨g, 0, none⟩) es := by
  refine ⟨⟨by simp [vals], fun _ => ⟨_, rfl, Nat.lt_of_lt_of_le h.gM h.ms, fun j u hu => ?_⟩⟩, fun t ht => (h.done t ht).rd⟩
  obtain ⟨hj, rfl⟩ := List.getElem?_eq_some_iff.1 hu
  have hj' : j < es.length := by simpa [vals] using hj
  have := h.top.cell (i := j) (by omega)
  rw [cellsTo_lt hj'] at this
  rw [Addr.add_lit, Nat.zero_add, this]
  simp [vals]
/-- A line that is only read, appended to a slice of the call's own. -/
theorem run_append_noneC {P : Program} {w : World} (base : Nat) (t ty e : TypeId) (i : TypeInfo) (size : Nat) (ht : P.underlying t = some (.slice e)) (hi : P.info? e = some i)
    (v : Value) (n c : Nat) (xs : List Value) (hown : w.ownsRow base e size v n xs) :
    (Builtin.append_ #[t, t] ty #[v, .slice none 0 c]).run P w = .ok v w := by
  rcases hown.2 with ⟨rfl, rfl⟩ | ⟨g, cap, cur, rfl, _, _, hnc, _⟩
  · simp [Builtin.append_, run_underlying ht, sizeOf, typeInfo, hi, Builtin.lenOf, Builtin.firstCells]
  · simp [Builtin.append_, run_underlying ht, sizeOf, typeInfo, hi, Builtin.lenOf, Builtin.firstCells, hnc, storeCells]
theorem wp_rd {P : Program} {o : Oper} {a : Act} {w : World} {K : Act → World → Prop} {Q : Exit → Act → World → Prop} (s x : Operand) {t e : TypeId} {z : Value} {bytes : Nat}
    (ht : P.underlying t = some (.slice e)) (hinfo : (P.info? e).map (fun i => (i.zero, i.size, i.bytes)) = some (some z, 1, bytes)) (hz1 : z.cells.size = 1) (hb8 : bytes ≤ 64)
    (ho : o.op = .call { callee := .builtin .append, args := #[s, x], argTypes := #[t, t] })
    (base : Nat) (v : Value) (n : Nat) (l : List Int) (hs : a.eval s = v) (hown : w.ownsRow base e 1 v n (ints l))
    (A : Option Addr) (m c B : Nat) (news : List Int) (hx : a.eval x = .slice A m c) (hm : news.length = m) (hp : Rd w B A news) (hn : n + m ≤ 1000000000) (hbase : base ≤ w.heap.size)
    (h : ∀ v' w', w'.ownsRow base e 1 v' (n + m) (ints (l ++ news)) → w.grownBy w' v.ownBlock → K (a.put o.dst v') w') : o.wp P a w K Q := by
  by_cases h0 : A = none
  · subst h0
    have hm0 : m = 0 := by
      by_cases e0 : 0 < news.length
      · obtain ⟨_, e, _⟩ := hp.2 e0; cases e
      · omega
    subst hm0
    have hnil : news = [] := List.eq_nil_of_length_eq_zero hm
    subst hnil
    obtain ⟨i0, hi, hz0, hzz, hz2⟩ := info_parts hinfo
    have hr := run_append_noneC (P := P) (w := w) base t o.type e i0 1 ht hi v n c (ints l) hown
    unfold Oper.wp execOp
    simp only [ho, resolve, invoke, builtin, Sem.run_bind, Sem.run_pure, Result.andThen_ok, List.map_toArray, List.map_cons, List.map_nil, hs, hx, hr]
    exact h v w (by simpa using hown) ⟨rfl, rfl, rfl, Nat.le_refl _, fun _ _ _ => rfl⟩
  · obtain ⟨ad, rfl⟩ := Option.ne_none_iff_exists'.1 h0
    refine wp_line s x ht hinfo hz1 hb8 ho base v n l hs hown (some ad) m c news hx ⟨hm, .inr ⟨ad, rfl, fun j u hu => ?_⟩⟩ hn hbase h
    have hj := (List.getElem?_eq_some_iff.1 hu).1
    obtain ⟨ad', e, _, hcell⟩ := hp.2 (by simp at hj; omega)
    injection e with e
    subst e
    exact hcell j u hu
theorem step_rd {P : Program} {ops : Array Oper} {o : Oper} {a : Act} {w : World} {K : Act → World → Prop} {Q : Exit → Act → World → Prop} {E : Prop} (hgd : o.guard = none) (s x : Operand) {t e : TypeId} {z : Value} {bytes : Nat}
    (ht : P.underlying t = some (.slice e)) (hinfo : (P.info? e).map (fun i => (i.zero, i.size, i.bytes)) = some (some z, 1, bytes)) (hz1 : z.cells.size = 1) (hb8 : bytes ≤ 64)
    (ho : o.op = .call { callee := .builtin .append, args := #[s, x], argTypes := #[t, t] })
    (base : Nat) (v : Value) (n : Nat) (l : List Int) (hs : a.eval s = v) (hown : w.ownsRow base e 1 v n (ints l))
    (A : Option Addr) (m c B : Nat) (news : List Int) (hx : a.eval x = .slice A m c) (hm : news.length = m) (hp : Rd w B A news) (hn : n + m ≤ 1000000000) (hbase : base ≤ w.heap.size)
    (h : ∀ v' w', w'.ownsRow base e 1 v' (n + m) (ints (l ++ news)) → w.grownBy w' v.ownBlock → K (a.put o.dst v') w') :
    if Region.wanted o (yielded ops a.tmps) = true then Oper.wp P o a w K Q else E := by
  rw [if_pos (by simp [Region.wanted, hgd])]
  exact wp_rd s x ht hinfo hz1 hb8 ho base v n l hs hown A m c B news hx hm hp hn hbase h
end Go.Proofs.Ytoljnbbhoeloeaa
