/- MEMORY AND PLAIN LAW: a slice of rows of numbers that grows, its last row too; the groups of each line. -/
import Derived.Test.YtfkcpcdndleboaaNumL
import Derived.Test.YtfkcpcdndleboaaCopy
import Derived.Test.YtfkcpcdndleboaaKidF
import Derived.Test.YtfkcpcdndleboaaNatP
namespace Go.Proofs.Ytfkcpcdndleboaa
open Go.RowKit
/-- An append onto a slice of the call's own, as one step of a region that draws its order. -/
theorem step_append_own {P : Program} {ops : Array Oper} {o : Oper} {a : Act} {w : World} {K : Act → World → Prop} {Q : Exit → Act → World → Prop} {E : Prop} (hg : o.guard = none) (s x : Operand) (t : TypeId)
    (ho : o.op = .call { callee := .builtin .append, args := #[s, x], argTypes := #[t, t] })
    (base : Nat) (e : TypeId) (i : TypeInfo) (z : Value) (size bytes : Nat) (ht : P.underlying t = some (.slice e)) (hi : P.info? e = some i) (hz : i.zero = some z)
    (hsize : i.size = size) (hby : i.bytes = bytes) (hzs : z.cells.size = size) (hsz : 0 < size)
    (v : Value) (n : Nat) (xs : List Value) (hs : a.eval s = v) (hown : w.ownsRow base e size v n xs)
    (ad : Addr) (m c : Nat) (news : List Value) (hx : a.eval x = .slice (some ad) m c) (hl : news.length = m * size) (hnews : ∀ j u, news[j]? = some u → w.cell? (ad.add j) = some u) (h1 : ∀ u ∈ news, u.oneCell' = true)
    (h63 : n + m ≤ maxLen) (hbytes : (n + m) * bytes ≤ 140737488355328) (hbase : base ≤ w.heap.size)
    (h : ∀ v' w', w'.ownsRow base e size v' (n + m) (xs ++ news) → w.grownBy w' v.ownBlock → K (a.put o.dst v') w') :
    if Region.wanted o (yielded ops a.tmps) = true then Oper.wp P o a w K Q else E := by
  rw [if_pos (by simp [Region.wanted, hg])]
  exact wp_append_own (P := P) w s x t ho base e i z size bytes ht hi hz hsize hby hzs hsz v n xs hs hown ad m c news hx hl hnews h1 h63 hbytes hbase (fun v' w' a b _ => h v' w' a b)
theorem step_one {P : Program} {ops : Array Oper} {o : Oper} {a : Act} {w : World} {K : Act → World → Prop} {Q : Exit → Act → World → Prop} {E : Prop} (hgd : o.guard = none) (s x : Operand) {t e : TypeId} {z : Value} {bytes : Nat}
    (ht : P.underlying t = some (.slice e)) (hinfo : (P.info? e).map (fun i => (i.zero, i.size, i.bytes)) = some (some z, 1, bytes)) (hz1 : z.cells.size = 1) (hb8 : bytes ≤ 64)
    (ho : o.op = .call { callee := .builtin .append, args := #[s, x], argTypes := #[t, t] })
    (base : Nat) (v : Value) (n : Nat) (xs : List Value) (hs : a.eval s = v) (hown : w.ownsRow base e 1 v n xs)
    (ad : Addr) (y : Value) (hx : a.eval x = .slice (some ad) 1 1) (hy : w.cell? ad = some y) (hy1 : y.oneCell' = true) (hn : n ≤ 1000000000000) (hbase : base ≤ w.heap.size)
    (h : ∀ v' w', w'.ownsRow base e 1 v' (n + 1) (xs ++ [y]) → w.grownBy w' v.ownBlock → K (a.put o.dst v') w') :
    if Region.wanted o (yielded ops a.tmps) = true then Oper.wp P o a w K Q else E := by
  obtain ⟨i0, hi, hz0, hzz, hz2⟩ := info_parts hinfo
  have hm : (n + 1) * bytes ≤ 140737488355328 := by
    have := Nat.mul_le_mul_left (n + 1) hb8
    omega
  refine step_append_own hgd s x t ho base e i0 z 1 bytes ht hi hz0 hzz hz2 hz1 (by decide) v n xs hs hown ad 1 1 [y] hx rfl ?_ (by intro u hu; simp at hu; subst hu; exact hy1) (by unfold maxLen; omega) hm hbase h
  intro j u hu
  match j, hu with
  | 0, hu => simp at hu; subst hu; simpa [Addr.add] using hy
theorem own_drew {w : World} {base n size : Nat} {e : TypeId} {v : Value} {xs : List Value} (h : w.ownsRow base e size v n xs) : w.drew.ownsRow base e size v n xs := h
abbrev El := Value × List Int
theorem own_ne_obj {w : World} {base : Nat} {e e' : TypeId} {size n g' : Nat} {v : Value} {xs : List Value} (h : w.ownsRow base e size v n xs) {c : Array Value} {f : Nat × Nat} (ho : w.heap[g']? = some (.cells c e' f)) (hne : e ≠ e') : some g' ≠ v.ownBlock := by
  intro e1
  obtain ⟨c1, h1⟩ := own_type h e1.symm
  rw [ho] at h1
  injection h1 with h1
  injection h1 with _ h2 _
  exact hne h2.symm
def cellsL (es : List El) : List Value := es.map fun t => t.1
theorem cellsL_snoc (es : List El) (t : El) : cellsL (es ++ [t]) = cellsL es ++ [t.1] := by simp [cellsL]
theorem cellsL_len (es : List El) : (cellsL es).length = es.length := by simp [cellsL]
def LClosed (w : World) (base M : Nat) (es : List El) : Prop := ∀ t ∈ es, w.ownsRow base 3 1 t.1 t.2.length (ints t.2) ∧ ∀ g, t.1.ownBlock = some g → g < M
/-- All rows are closed. -/
structure LAll (w : World) (base : Nat) (v : Value) (es : List El) : Prop where
  own : w.ownsRow base 65 1 v es.length (cellsL es)
  cl : LClosed w base w.heap.size es
  hB : base ≤ w.heap.size
/-- The last one is open: it lies beyond the others. -/
structure LOpen (w : World) (base M : Nat) (v : Value) (es : List El) (t : El) : Prop where
  own : w.ownsRow base 65 1 v (es.length + 1) (cellsL (es ++ [t]))
  cl : LClosed w base M es
  last : w.ownsRow M 3 1 t.1 t.2.length (ints t.2)
  hB : base ≤ M
  hM : M ≤ w.heap.size
section
variable {w w' : World} {base M : Nat} {v v' : Value} {es : List El} {t : El}
theorem ints_of : 65 ≠ 3 := by decide
theorem LClosed.kept {row : Option Nat} (h : LClosed w base M es) (hg : w.grownBy w' row) (hr : ∀ t ∈ es, t.1.ownBlock = none ∨ t.1.ownBlock ≠ row) : LClosed w' base M es :=
  fun t ht => ⟨(h t ht).1.kept hg (hr t ht), (h t ht).2⟩
theorem LClosed.below (h : LClosed w base M es) (hb : Below w.heap.size w w') : LClosed w' base M es := fun t ht => ⟨own_keep (h t ht).1 hb, (h t ht).2⟩
theorem LClosed.more {M' : Nat} (h : LClosed w base M es) (hM : M ≤ M') : LClosed w base M' es := fun t ht => ⟨(h t ht).1, fun g hg => Nat.lt_of_lt_of_le ((h t ht).2 g hg) hM⟩
theorem LAll.nil (w : World) (base : Nat) (hB : base ≤ w.heap.size) : LAll w base (.slice none 0 0) [] := ⟨World.ownsRow_nil _ _ _ _, (fun t ht => by cases ht), hB⟩
theorem LAll.below (h : LAll w base v es) (hb : Below w.heap.size w w') : LAll w' base v es := ⟨own_keep h.own hb, (h.cl.below hb).more hb.size, Nat.le_trans h.hB hb.size⟩
theorem LOpen.below (h : LOpen w base M v es t) (hb : Below w.heap.size w w') : LOpen w' base M v es t := ⟨own_keep h.own hb, h.cl.below hb, own_keep h.last hb, h.hB, Nat.le_trans h.hM hb.size⟩
theorem LAll.base_ {base' : Nat} (h : LAll w base v es) (hB : base' ≤ base) : LAll w base' v es := ⟨own_base h.own hB, fun t ht => ⟨own_base (h.cl t ht).1 hB, (h.cl t ht).2⟩, Nat.le_trans hB h.hB⟩
/-- A new row, with nothing in it. -/
theorem LAll.push (h : LAll w base v es) (hown : w'.ownsRow base 65 1 v' (es.length + 1) (cellsL es ++ [.slice none 0 0])) (hg : w.grownBy w' v.ownBlock) :
    LOpen w' base w'.heap.size v' es (.slice none 0 0, []) :=
  ⟨by rw [cellsL_snoc]; exact hown, (h.cl.kept hg (fun t ht => own_ne (h.cl t ht).1 h.own (fun e' => ints_of e'.symm))).more hg.size, World.ownsRow_nil _ _ _ _, Nat.le_trans h.hB hg.size, Nat.le_refl _⟩
/-- The open one is closed. -/
theorem LOpen.shut (h : LOpen w base M v es t) : LAll w base v (es ++ [t]) := by
  refine ⟨by simpa using h.own, fun t' ht => ?_, Nat.le_trans h.hB h.hM⟩
  rcases List.mem_append.1 ht with ht | ht
  · exact (h.cl.more h.hM) t' ht
  · obtain rfl := List.mem_singleton.1 ht
    exact ⟨own_base h.last h.hB, fun g hg => (h.last.lt g hg).2⟩
theorem LOpen.form (h : LOpen w base M v es t) : ∃ g c, v = .slice (some ⟨g, 0, none⟩) (es.length + 1) c ∧ base ≤ g ∧ g < w.heap.size := by
  obtain ⟨g, c, hv, h1, h2⟩ := h.own.form (by omega)
  exact ⟨g, c, hv, h1, h2⟩
theorem LOpen.cells {g c : Nat} (h : LOpen w base M (.slice (some ⟨g, 0, none⟩) (es.length + 1) c) es t) :
    w.cell? ⟨g, es.length, none⟩ = some t.1 ∧ ∀ j, w.frozen? ⟨g, j, none⟩ = false := by
  have hl := cellsL_len es
  refine ⟨?_, fun j => h.own.frozenAt j⟩
  rw [h.own.cellAt _ (by omega), cellsL_snoc, List.getElem?_append_right (by omega), hl, Nat.sub_self]; rfl
/-- While its row is appended to, its cells stay. -/
theorem LOpen.grown {g c : Nat} (h : LOpen w base M (.slice (some ⟨g, 0, none⟩) (es.length + 1) c) es t) (hg : w.grownBy w' t.1.ownBlock) :
    w'.cell? ⟨g, es.length, none⟩ = some t.1 ∧ w'.frozen? ⟨g, es.length, none⟩ = false ∧ g < w'.heap.size := by
  obtain ⟨h3, h4⟩ := h.cells
  have hlt := (h.own.lt g rfl).2
  have hne : some g ≠ t.1.ownBlock := by
    rcases own_ne h.own h.last ints_of with h5 | h5
    · cases h5
    · exact h5
  exact ⟨hg.cell h3 hne, (World.frozen?_of_block (a := ⟨g, es.length, none⟩) (hg.block g hlt hne)).trans (h4 _), Nat.lt_of_lt_of_le hlt hg.size⟩
/-- The open row has been appended to, and is written back. -/
theorem LOpen.putSlice {g c : Nat} {x : Int} {sv : Value} (h : LOpen w base M (.slice (some ⟨g, 0, none⟩) (es.length + 1) c) es t) (hown : w'.ownsRow M 3 1 sv (t.2.length + 1) (ints t.2 ++ [.int .i64 x])) (hg : w.grownBy w' t.1.ownBlock) :
    LOpen (w'.setCell ⟨g, es.length, none⟩ sv) base M (.slice (some ⟨g, 0, none⟩) (es.length + 1) c) es (sv, t.2 ++ [x]) := by
  have hk : w'.ownsRow base 65 1 (.slice (some ⟨g, 0, none⟩) (es.length + 1) c) (es.length + 1) (cellsL (es ++ [t])) := h.own.kept hg (own_ne h.own h.last ints_of)
  obtain ⟨h1, h2⟩ := hk.stored (es.length) sv
  have hcl : LClosed w' base M es := h.cl.kept hg (fun t' ht => by
    cases hb : t'.1.ownBlock with
    | none => exact .inl rfl
    | some g' => exact .inr (fun e1 => by have h3 := (h.cl t' ht).2 g' hb; have h4 := (h.last.lt g' e1.symm).1; omega))
  refine ⟨?_, hcl.kept h2 (fun t' ht => own_ne (hcl t' ht).1 hk (fun e' => ints_of e'.symm)), ?_, h.hB, by have := h.hM; have := hg.size; simp [World.setCell]; omega⟩
  · rw [cellsL_snoc] at h1 ⊢
    rw [List.set_append_right _ _ (by rw [cellsL_len]; omega), cellsL_len, Nat.sub_self] at h1
    exact h1
  · have := hown.kept h2 (own_ne hown hk (fun e' => ints_of e'.symm))
    simpa [ints] using this
end
/-- A closed slice of rows, read. -/
theorem LAll.at {w : World} {base : Nat} {v : Value} {es : List El} (h : LAll w base v es) (hl : 0 < es.length) :
    ∃ b c, v = .slice (some ⟨b, 0, none⟩) es.length c ∧ b < w.heap.size ∧ ∀ j (hj : j < es.length), ∃ A' c', es[j].1 = .slice A' es[j].2.length c' ∧ w.cell? ⟨b, j, none⟩ = some (.slice A' es[j].2.length c') ∧ Rd w w.heap.size A' es[j].2 := by
  obtain ⟨b, c, hv, h1, h2⟩ := h.own.form hl
  subst hv
  refine ⟨b, c, rfl, h2, fun j hj => ?_⟩
  have ho := (h.cl _ (List.getElem_mem hj)).1
  obtain ⟨A', c', e⟩ := own_slice ho
  refine ⟨A', c', e, ?_, ?_⟩
  · rw [h.own.cellAt _ (by omega)]
    unfold cellsL
    rw [List.getElem?_map, List.getElem?_eq_getElem hj]
    exact congrArg some e
  · rw [e] at ho
    exact Reads.of_own ho
/-- What Lines answers. -/
def LinIs (E : Int) (G : List (List Int)) (w : World) (e : Ending) (w' : World) : Prop :=
  ∃ (v : Value) (es : List El), e = .returned (.tuple #[v, .int .i64 E]) ∧ LAll w' w.heap.size v es ∧ es.map (fun t => t.2) = G ∧ Below w.heap.size w w'
/-- The groups of each line, for the first k groups. -/
def rowTo (L : List (Int × Int)) : Nat → List (List Int)
  | 0 => []
  | k + 1 => if (L.getD k (0, 0)).1 = ((rowTo L k).length : Int) then rowTo L k ++ [[(k : Int)]] else (rowTo L k).dropLast ++ [(rowTo L k).getLastD [] ++ [(k : Int)]]
/-- The lines go on one by one. -/
def LinSt (L : List (Int × Int)) : Prop := ∀ k, k < L.length → (L.getD k (0, 0)).1 = ((rowTo L k).length : Int) ∨ (0 < (rowTo L k).length ∧ (L.getD k (0, 0)).1 = ((rowTo L k).length : Int) - 1)
theorem rowTo_new {L : List (Int × Int)} {k : Nat} (h : (L.getD k (0, 0)).1 = ((rowTo L k).length : Int)) : rowTo L (k + 1) = rowTo L k ++ [[(k : Int)]] := if_pos h
theorem rowTo_old {L : List (Int × Int)} {k : Nat} {xs : List (List Int)} {x : List Int} (h : ¬ (L.getD k (0, 0)).1 = ((rowTo L k).length : Int)) (he : rowTo L k = xs ++ [x]) : rowTo L (k + 1) = xs ++ [x ++ [(k : Int)]] := by
  have h1 : rowTo L (k + 1) = (rowTo L k).dropLast ++ [(rowTo L k).getLastD [] ++ [(k : Int)]] := if_neg h
  rw [h1, he]
  simp
theorem rowTo_len_le (L : List (Int × Int)) : ∀ k, (rowTo L k).length ≤ k
  | 0 => Nat.le_refl _
  | k + 1 => by
    have := rowTo_len_le L k
    unfold rowTo
    split
    · simp; omega
    · rw [List.length_append, List.length_dropLast]; simp; omega
theorem rowTo_row_le (L : List (Int × Int)) : ∀ k, ∀ r ∈ rowTo L k, r.length ≤ k
  | 0, r, h => by cases h
  | k + 1, r, h => by
    have ih := rowTo_row_le L k
    unfold rowTo at h
    split at h
    · rcases List.mem_append.1 h with h | h
      · have := ih r h; omega
      · rw [List.mem_singleton.1 h]; simp
    · rcases List.mem_append.1 h with h | h
      · have := ih r (List.dropLast_subset _ h); omega
      · rw [List.mem_singleton.1 h, List.length_append, List.length_singleton]
        rcases List.eq_nil_or_concat (rowTo L k) with e | ⟨xs, x, e⟩
        · rw [e]; simp
        · have h2 : (rowTo L k).getLastD [] = x := by rw [e]; simp
          rw [h2]
          have := ih x (by rw [e]; simp)
          omega
/-- The line of the last group. -/
theorem rowTo_line {L : List (Int × Int)} (h0 : ∀ k, k < L.length → (L.getD k (0, 0)).1 = (if k = 0 then 0 else (L.getD (k - 1) (0, 0)).1) ∨ (0 < k ∧ (L.getD k (0, 0)).1 = (L.getD (k - 1) (0, 0)).1 + 1)) : ∀ k, k ≤ L.length → (k = 0 ∨ (L.getD (k - 1) (0, 0)).1 = ((rowTo L k).length : Int) - 1) ∧ (0 < k → 0 < (rowTo L k).length)
  | 0, _ => ⟨.inl rfl, fun h => absurd h (by omega)⟩
  | k + 1, hk => by
    obtain ⟨h1, h2⟩ := rowTo_line h0 k (by omega)
    refine ⟨.inr ?_, fun _ => ?_⟩
    · rw [Nat.add_sub_cancel]
      by_cases hc : (L.getD k (0, 0)).1 = ((rowTo L k).length : Int)
      · rw [rowTo_new hc, List.length_append, List.length_singleton, hc]
        omega
      · have h3 : rowTo L (k + 1) = (rowTo L k).dropLast ++ [(rowTo L k).getLastD [] ++ [(k : Int)]] := if_neg hc
        rw [h3, List.length_append, List.length_dropLast, List.length_singleton]
        rcases h1 with h1 | h1
        · subst h1
          exfalso
          rcases h0 0 (by omega) with h4 | h4
          · exact hc h4
          · omega
        · have hk0 : 0 < k := by
            rcases Nat.eq_zero_or_pos k with h5 | h5
            · subst h5
              exfalso
              rcases h0 0 (by omega) with h4 | h4
              · exact hc h4
              · omega
            · exact h5
          have h5 := h2 hk0
          rcases h0 k (by omega) with h4 | h4
          · rw [if_neg (by omega)] at h4
            omega
          · exfalso
            omega
    · by_cases hc : (L.getD k (0, 0)).1 = ((rowTo L k).length : Int)
      · rw [rowTo_new hc]; simp
      · have h3 : rowTo L (k + 1) = (rowTo L k).dropLast ++ [(rowTo L k).getLastD [] ++ [(k : Int)]] := if_neg hc
        rw [h3]; simp
theorem linSt_of {L : List (Int × Int)} (h0 : ∀ k, k < L.length → (L.getD k (0, 0)).1 = (if k = 0 then 0 else (L.getD (k - 1) (0, 0)).1) ∨ (0 < k ∧ (L.getD k (0, 0)).1 = (L.getD (k - 1) (0, 0)).1 + 1)) : LinSt L := fun k hk => by
  obtain ⟨h1, h2⟩ := rowTo_line h0 k (by omega)
  rcases Nat.eq_zero_or_pos k with h5 | h5
  · subst h5
    left
    rcases h0 0 hk with h4 | h4
    · exact h4
    · omega
  · have h6 := h2 h5
    rcases h1 with h1 | h1
    · omega
    · rcases h0 k hk with h4 | h4
      · rw [if_neg (by omega)] at h4
        exact .inr ⟨h6, by omega⟩
      · left; omega
theorem stands_step (len : Int) : ∀ (xs : List Fr) (st : Int × Int) (k : Nat), k < xs.length → ((stands len xs st).getD k (0, 0)).1 = (if k = 0 then st.1 else ((stands len xs st).getD (k - 1) (0, 0)).1) ∨ ((0 < st.2 ∨ 0 < k) ∧ ((stands len xs st).getD k (0, 0)).1 = (if k = 0 then st.1 else ((stands len xs st).getD (k - 1) (0, 0)).1) + 1)
  | [], _, k, hk => by simp at hk
  | x :: xs, st, 0, _ => by
    rw [if_pos rfl, stands, List.getD_cons_zero]
    unfold stq
    split
    · rename_i h; exact .inr ⟨.inl h.1, rfl⟩
    · exact .inl rfl
  | x :: xs, st, k + 1, hk => by
    have ih := stands_step len xs (stn (stq len st x) x) k (by simpa using hk)
    rw [if_neg (by omega), stands, List.getD_cons_succ, Nat.add_sub_cancel]
    rcases Nat.eq_zero_or_pos k with h5 | h5
    · subst h5
      rw [if_pos rfl] at ih
      rw [List.getD_cons_zero]
      rcases ih with ih | ih
      · exact .inl ih
      · exact .inr ⟨.inr (by omega), ih.2⟩
    · rw [if_neg (by omega)] at ih
      obtain ⟨j, rfl⟩ : ∃ j, k = j + 1 := ⟨k - 1, by omega⟩
      rw [Nat.add_sub_cancel] at ih
      rw [List.getD_cons_succ]
      rcases ih with ih | ih
      · exact .inl ih
      · exact .inr ⟨.inr (by omega), ih.2⟩
theorem layS_linSt (ss : List Sg) (l : List Nd) (rows : Bool) (len : Int) : LinSt (layS ss l rows len) := by
  refine linSt_of fun k hk => ?_
  unfold layS at hk ⊢
  rw [stands_len] at hk
  have := stands_step len ((kidsOf l (-1)).map (gL ss l rows)) (0, 0) k hk
  rcases this with h | h
  · exact .inl h
  · rcases h with ⟨h1, h2⟩
    have h3 : 0 < k := by
      rcases h1 with h1 | h1
      · exact absurd h1 (by decide)
      · exact h1
    rw [if_neg (by omega)] at h2
    exact .inr ⟨h3, h2⟩
end Go.Proofs.Ytfkcpcdndleboaa

/- WALK: the program's Lines (printed by gen_linesp.py). -/
namespace Go.Proofs.Ytfkcpcdndleboaa
open Go.RowKit
/-- The lines that are answered. -/
noncomputable def linV (P : Int) (ss : List Sg) (l : List Nd) (d wd : Int) : List (List Int) := if begE P ss l d wd = 0 then rowTo (layS ss (plR l l.length) (decide (d ≤ 2)) wd) (layS ss (plR l l.length) (decide (d ≤ 2)) wd).length else []
/-- What a loop that builds lines keeps. -/
def LSt (W : World) (base : Nat) (L : List (Int × Int)) (k : Nat) (v : Value) : Prop := (rowTo L k = [] ∧ v = .slice none 0 0) ∨ ∃ (M : Nat) (pre : List El) (t : El), LOpen W base M v pre t ∧ (pre ++ [t]).map (fun t => t.2) = rowTo L k
theorem LSt.below {W W' : World} {base : Nat} {L : List (Int × Int)} {k : Nat} {v : Value} (h : LSt W base L k v) (hb : Below W.heap.size W W') : LSt W' base L k v := by
  rcases h with h | ⟨M, pre, t, h1, h2⟩
  · exact .inl h
  · exact .inr ⟨M, pre, t, h1.below hb, h2⟩
theorem LSt.all {W : World} {base : Nat} {L : List (Int × Int)} {k : Nat} {v : Value} (h : LSt W base L k v) (hB : base ≤ W.heap.size) : ∃ es : List El, LAll W base v es ∧ es.map (fun t => t.2) = rowTo L k := by
  rcases h with ⟨h1, rfl⟩ | ⟨M, pre, t, h1, h2⟩
  · exact ⟨[], LAll.nil _ _ hB, h1.symm⟩
  · exact ⟨_, h1.shut, h2⟩
theorem LSt.fin {W : World} {base : Nat} {L : List (Int × Int)} {k : Nat} {v : Value} (h : LSt W base L k v) (hB : base ≤ W.heap.size) : ∃ (A : Option Addr) (c : Nat), v = .slice A (rowTo L k).length c := by
  obtain ⟨es, h1, h2⟩ := h.all hB
  obtain ⟨A, c, e⟩ := own_slice h1.own
  exact ⟨A, c, by rw [e, ← h2, List.length_map]⟩
/-- The last line goes on. -/
theorem LSt.old {W : World} {base : Nat} {L : List (Int × Int)} {k : Nat} {v : Value} (h : LSt W base L k v) (h0 : 0 < (rowTo L k).length) (hL : (L.getD k (0, 0)).1 = ((rowTo L k).length : Int) - 1) :
    ∃ (M : Nat) (pre : List El) (t : El), LOpen W base M v pre t ∧ (L.getD k (0, 0)).1 = (pre.length : Int) ∧ pre.map (fun t => t.2) ++ [t.2 ++ [(k : Int)]] = rowTo L (k + 1) ∧ (rowTo L k).length = pre.length + 1 := by
  rcases h with ⟨h1, _⟩ | ⟨M, pre, t, h1, h2⟩
  · rw [h1] at h0; exact absurd h0 (by simp)
  · have hl : (rowTo L k).length = pre.length + 1 := by rw [← h2]; simp
    refine ⟨M, pre, t, h1, by omega, ?_, hl⟩
    rw [rowTo_old (by omega) (by rw [← h2, List.map_append]; rfl)]
/-- The state behind a round. -/
theorem LSt.next {W : World} {base M : Nat} {L : List (Int × Int)} {k : Nat} {v sv : Value} {pre : List El} {x : List Int} (h : LOpen W base M v pre (sv, x ++ [(k : Int)])) (he : pre.map (fun t => t.2) ++ [x ++ [(k : Int)]] = rowTo L (k + 1)) : LSt W base L (k + 1) v :=
  .inr ⟨M, pre, _, h, by rw [List.map_append]; exact he⟩
theorem Try.underLns : Try.prog.underlying 61 = some (.slice 65) := by kernel_rfl
theorem Try.infoLns : (Try.prog.info? 65).map (fun i => (i.zero, i.size, i.bytes)) = some (some (.slice none 0 0), 1, 24) := by kernel_rfl
set_option maxRecDepth 100000 in
set_option maxHeartbeats 4000000 in
theorem Lines_any (P : Int) (ss : List Sg) (l : List Nd) (hN : ss.length ≤ 1000000) (hv : ∀ s ∈ ss, s.vals.length ≤ 1000000 ∧ s.vals.length ≤ s.vc) (hn : l.length ≤ 1000000) (d wd : Int) (A A2 : Option Addr) (c c2 : Nat) (w : World) (rs : Sgs w w.heap.size A ss) (rn : Nds w w.heap.size A2 l) :
    Calls Try.prog 28 #[.agg #[.int .i64 P, .slice A ss.length c], .agg #[.slice A2 l.length c2], .agg #[.int .i64 d, .int .i64 wd]] w (LinIs (begE P ss l d wd) (linV P ss l d wd) w) := by
  obtain ⟨w1, hw1⟩ : ∃ w1, w1 = ((w.alloc (.cells #[.int .i64 P, .slice A ss.length c] 24)).alloc (.cells #[.slice A2 l.length c2] 27)).alloc (.cells #[.int .i64 d, .int .i64 wd] 31) := ⟨_, rfl⟩
  have hb1 : Below w.heap.size w w1 := by rw [hw1]; exact (((Below.refl _ _).alloc (Nat.le_refl _) _).alloc (by simp) _).alloc (by simp; omega) _
  have hz1 : w1.heap.size = w.heap.size + 3 := by rw [hw1]; simp
  have hdoc : DocB w1 w.heap.size P (.slice A ss.length c) (.slice A2 l.length c2) d wd := by rw [hw1]; exact DocB.new _ _ _ _ _ _
  have HC := hid fun (W : World) (h : Below w1.heap.size w1 W) => (show DocC W w.heap.size (w.heap.size + 1) (w.heap.size + 2) P (.slice A ss.length c) (.slice A2 l.length c2) d wd from (hdoc.below h (by omega)).cells)
  have HBG := hid (begin_any P ss l hN hv hn d wd A A2 c c2 w1 ((rs.below hb1).more hb1.size) ((rn.below hb1).more hb1.size))
  have HRS := hid fun (W : World) (h : Below w1.heap.size w1 W) => (show Sgs W W.heap.size A ss from (rs.below (hb1.trans (h.mono hb1.size))).more (Nat.le_trans hb1.size h.size))
  have hbad : begE P ss l d wd ≠ 0 → linV P ss l d wd = [] := fun h => if_neg h
  have hok : begE P ss l d wd = 0 → linV P ss l d wd = rowTo (layS ss (plR l l.length) (decide (d ≤ 2)) wd) (layS ss (plR l l.length) (decide (d ≤ 2)) wd).length := fun h => if_pos h
  have hpln : begE P ss l d wd = 0 → chkE P ss l = 0 ∧ plnL P ss l = plR l l.length ∧ Pln P ss (plR l l.length) := fun h => ⟨(beg_ok h).1, plnL_ok (beg_ok h).1, pln_of (beg_ok h).1⟩
  have HW1 := hid hw1; have HB1 := hid hb1; have HZ1 := hid hz1
  have HV := hid hv
  by_cases hb : begE P ss l d wd = 0
  · obtain ⟨hck, hpe, hp⟩ := hpln hb
    have hk := hok hb
    have hpg := page_ok (beg_ok hb).2
    have HBG2 := hid (HBG.out.mono fun (e : Ending) (w' : World) (h : BegPost P ss l d wd A c w1 e w') => (show ∃ (A3 : Option Addr) (c3 : Nat), e = .returned (.tuple #[.agg #[.int .i64 P, .slice A ss.length c, .slice A3 (plR l l.length).length c3, .bool (decide (d ≤ 2))], .int .i64 0]) ∧ Nds w' w'.heap.size A3 (plR l l.length) ∧ Below w1.heap.size w1 w' from by
      obtain ⟨h1, h2 | ⟨h2, A3, c3, h3, h4⟩⟩ := h
      · exact absurd hb h2.1
      · exact ⟨A3, c3, h3, h4, h1⟩))
    clear HBG
    generalize plR l l.length = pl at *
    have hnp := hp.len
    have HGR := hid fun (A3 : Option Addr) (c3 : Nat) (W : World) (h : Below w1.heap.size w1 W) (r : Nds W W.heap.size A3 pl) => groups_any P ss pl (decide (d ≤ 2)) hp hN HV.out wd (by omega) hpg.2.2 A A3 c c3 W (HRS.out W h) r
    have HGL := hid (show (grpL ss pl (decide (d ≤ 2)) wd).length = (layS ss pl (decide (d ≤ 2)) wd).length from by rw [grpL_len]; unfold layS; rw [stands_len, List.length_map])
    have HGT := hid fun (j : Nat) (hj : j < (grpL ss pl (decide (d ≤ 2)) wd).length) => (show ∃ (k : Nat) (s : Fr) (a : Int), ((flatG (grpL ss pl (decide (d ≤ 2)) wd))[j * 5 + 0]? = some (.int .i64 k) ∧ (flatG (grpL ss pl (decide (d ≤ 2)) wd))[j * 5 + 1]? = some (.int .i64 s.n) ∧ (flatG (grpL ss pl (decide (d ≤ 2)) wd))[j * 5 + 2]? = some (.int .i64 s.d)) ∧ (flatG (grpL ss pl (decide (d ≤ 2)) wd))[j * 5 + 3]? = some (.int .i64 ((layS ss pl (decide (d ≤ 2)) wd).getD j (0, 0)).1) ∧ (flatG (grpL ss pl (decide (d ≤ 2)) wd))[j * 5 + 4]? = some (.int .i64 a) from by
      obtain ⟨h2, h3, h4⟩ := grpL_get hj
      have e : (layS ss pl (decide (d ≤ 2)) wd).getD j (0, 0) = (layS ss pl (decide (d ≤ 2)) wd)[j] := by rw [List.getD_eq_getElem?_getD, List.getElem?_eq_getElem h3]; rfl
      rw [flatG_get _ j 0 hj (by decide), flatG_get _ j 1 hj (by decide), flatG_get _ j 2 hj (by decide), flatG_get _ j 3 hj (by decide), flatG_get _ j 4 hj (by decide), h4, e]
      exact ⟨_, _, _, ⟨rfl, rfl, rfl⟩, rfl, rfl⟩)
    have HFL := hid (flatG_len (grpL ss pl (decide (d ≤ 2)) wd))
    have hls := layS_linSt ss pl (decide (d ≤ 2)) wd
    have hml : (layS ss pl (decide (d ≤ 2)) wd).length ≤ 1000000 := by
      have := kidsOf_len (l := pl) (node := -1) (by omega)
      unfold layS
      rw [stands_len, List.length_map]
      omega
    have HK := hid hk
    generalize linV P ss l d wd = V at *
    generalize layS ss pl (decide (d ≤ 2)) wd = L at *
    obtain ⟨m, hm⟩ : ∃ m, m = L.length := ⟨_, rfl⟩
    rw [← hm] at HGL HK hml
    rw [HGL.out] at HGT HGR HFL
    generalize flatG (grpL ss pl (decide (d ≤ 2)) wd) = FG at *
    clear HGL
    have HLS := hid fun (k : Nat) (hk : k < m) => hls k (by omega)
    generalize decide (d ≤ 2) = rows at *
    clear hls hk hbad hok hpln hck hpe hw1 hb1 hdoc rs rn hv HV HRS hp hm
    rw [hb]
    clear hb
    generalize ss.length = N at *
    generalize l.length = n at *
    go_enter Try.func28, Try.ntmps28
    go_upto_region 1 with (fail)
    simp only [Nat.add_assoc, Nat.reduceAdd]
    rw [← HW1.out]
    clear HW1
    obtain ⟨B0, hB0⟩ : ∃ B0, B0 = w.heap.size := ⟨_, rfl⟩
    obtain ⟨B1, hB1⟩ : ∃ B1, B1 = B0 + 1 := ⟨_, rfl⟩
    obtain ⟨B2, hB2⟩ : ∃ B2, B2 = B0 + 2 := ⟨_, rfl⟩
    rw [← hB0] at HC
    rw [← hB1, ← hB2] at HC
    rw [← hB0]
    try rw [← hB1]
    try rw [← hB2]
    clear hB0 hB1 hB2 hz1
    have hc := HC.out w1 (Below.refl _ _)
    have p0 := hc.c0; have p1 := hc.c1; have p2 := hc.c2; have p3 := hc.c3; have p4 := hc.c4
    clear hc
    go_upto_region 2 with (first | (go_at_call 46; refine HBG2.out.mono ?_; rintro e w2 ⟨A3, c3, rfl, hr, hb2⟩; have HRN := hid hr; have HB2 := hid hb2; clear p0 p1 p2 p3 p4 hr hb2))
    have hb23 : Below w2.heap.size w2 (w2.alloc (.cells #[.int .i64 P, .slice A N c, .slice A3 pl.length c3, .bool rows] 93)) := (Below.refl _ _).alloc (Nat.le_refl _) _
    have HB3 := hid (bnext0 HB2.out hb23)
    have HG := hid (HGR.out A3 c3 _ HB3.out ((Nds.below HRN.out hb23).more hb23.size))
    have p4 := (HC.out _ HB3.out).c4
    clear hb23 HRN HGR HBG2
    go_wp2_with (first | (go_at_call 61; refine HG.out.mono ?_; rintro e w5 ⟨v5, rfl, ho5, hb5⟩; obtain ⟨A5, c5, rfl⟩ := own_slice ho5; have HO5 := hid (Reads.of_own ho5); have HB5 := hid (bnext0 HB3.out hb5); clear p4 ho5 hb5))
    clear HG
    go_loopw [10, 28] (fun ov kv wr => ∃ k : Nat, k ≤ m ∧ kv = .int .i64 k ∧ Hid (LSt wr w5.heap.size L k ov) ∧ Hid (Below w5.heap.size w5 wr)) (fun _ kv _ => m - (intOf kv).toNat)
    case atStart => exact ⟨0, by omega, rfl, hid (.inl ⟨rfl, rfl⟩), hid (Below.refl _ _)⟩
    case round =>
      obtain ⟨k, hk, rfl, hS, hB⟩ := hrel
      obtain ⟨Ao, co, rfl⟩ := LSt.fin hS.out hB.out.size
      by_cases hkm : k < m
      · obtain ⟨kn, s, a, ⟨t0, t1, t2⟩, t3, t4⟩ := HGT.out k hkm
        obtain ⟨b5, o5, rfl, hb5, hc5⟩ := Reads.at0 HO5.out (by omega) (by rw [HFL.out]; omega)
        have r0 := (hB.out.cell (p := ⟨b5, o5 + (k * 5 + 0), none⟩) hb5).trans (hc5 _ _ t0)
        have r1 := (hB.out.cell (p := ⟨b5, o5 + (k * 5 + 1), none⟩) hb5).trans (hc5 _ _ t1)
        have r2 := (hB.out.cell (p := ⟨b5, o5 + (k * 5 + 2), none⟩) hb5).trans (hc5 _ _ t2)
        have r3 := (hB.out.cell (p := ⟨b5, o5 + (k * 5 + 3), none⟩) hb5).trans (hc5 _ _ t3)
        have r4 := (hB.out.cell (p := ⟨b5, o5 + (k * 5 + 4), none⟩) hb5).trans (hc5 _ _ t4)
        rw [← Nat.add_assoc] at r1 r2 r3 r4
        rw [Nat.add_zero] at r0
        have q0 : (k : Int) < (m : Int) := by omega
        have hlk := HLS.out k hkm
        have hrl := rowTo_len_le L k
        have hrr := rowTo_row_le L k
        have hrn := rowTo_new (L := L) (k := k)
        have hol := fun (W : World) (v : Value) (h : LSt W w5.heap.size L k v) => LSt.old h
        clear hc5 hb5 t0 t1 t2 t3 t4
        obtain ⟨lk, hlk2⟩ : ∃ lk, lk = (L.getD k (0, 0)).1 := ⟨_, rfl⟩
        obtain ⟨q, hq⟩ : ∃ q, q = (rowTo L k).length := ⟨_, rfl⟩
        rw [← hlk2] at r3 hlk hrn
        rw [← hq] at hlk hrl hrn
        rw [← hq]
        simp only [← hlk2, ← hq] at hol
        clear hlk2
        have HQ := hid hq
        obtain ⟨w6, hw6⟩ : ∃ w6, w6 = wr.alloc (.cells #[.int .i64 kn, .int .i64 s.n, .int .i64 s.d, .int .i64 lk, .int .i64 a] 111) := ⟨_, rfl⟩
        obtain ⟨b12, hb12⟩ : ∃ b12, b12 = wr.heap.size := ⟨_, rfl⟩
        have HGB := hid (show GpB w6 b12 ⟨kn, s, (lk, a)⟩ from by rw [hw6, hb12]; exact nw_blk rfl)
        have HX6 := hid (show Below wr.heap.size wr w6 from by rw [hw6]; exact (Below.refl _ _).alloc (Nat.le_refl _) _)
        have HB6 := hid (hB.out.trans (HX6.out.mono hB.out.size))
        have hs6 := LSt.below hS.out HX6.out
        rw [← hq] at hs6
        have HS6 := hid hs6
        clear hB hS hs6 hq
        go_upto_region 8 with (fail)
        rw [← hw6]
        try rw [← hb12]
        clear hw6 hb12 r0 r1 r2 r3 r4 HX6
        have HK1 := hid (show k + 1 ≤ m from hkm)
        have d3 := (HGB.out.cells).k3
        simp only [] at d3
        by_cases hnew : lk = (q : Int)

        · have e1 : (lk == (q : Int)) = true := by simpa using hnew
          obtain ⟨es, hal, hes⟩ := LSt.all HS6.out HB6.out.size
          have hel : q = es.length := by rw [HQ.out, ← hes, List.length_map]
          have hrt := hrn hnew
          rw [← hes] at hrt
          have HEQ := hid (show es.map (fun t => t.2) ++ [[] ++ [(k : Int)]] = rowTo L (k + 1) from hrt.symm)
          have HAL := hid hal
          have hqb : q ≤ 1000000 := by omega
          have haw : w6.ownsRow w5.heap.size 65 1 (.slice Ao q co) q (cellsL es) := by rw [hel]; have := hal.own; rwa [hel] at this
          have HAW := hid haw
          have HEL := hid hel
          clear hlk hrl hrr hrn hol hal hes hrt HS6 haw hel
          go_upto_region 10 with (at_builtin; refine app_one rfl (.tmp 38) (.tmp 39) Try.underLns Try.infoLns rfl (by decide) rfl w5.heap.size _ q (cellsL es) rfl (own_keep HAW.out ((Below.refl _ _).alloc (Nat.le_refl _) _)) ⟨w6.heap.size, 0, none⟩ (.slice none 0 0) rfl (cell_new1 _ _ _) rfl (by omega) (by have := HB6.out.size; simp; omega) ?_; intro v7 w8 ho8 hg8; have HO8 := hid ho8; have HG8 := hid hg8; clear ho8 hg8)
          have hxa : Below w6.heap.size w6 (w6.alloc (.cells #[.slice none 0 0] 65)) := (Below.refl _ _).alloc (Nat.le_refl _) _
          have HB7 := hid (show Below w5.heap.size w5 w8 from below_app (B' := w5.heap.size) (bnext0 HB6.out hxa) (own_keep HAW.out hxa) HG8.out (Nat.le_refl _) (bnext0 HB6.out hxa).size)
          have HGB7 := hid (show GpB w8 b12 ⟨kn, s, (lk, a)⟩ from (HG8.out.block b12 (lt_of_block (GpB.below HGB.out hxa)) (own_ne_obj (own_keep HAW.out hxa) (GpB.below HGB.out hxa) (by decide))).trans (GpB.below HGB.out hxa))
          obtain ⟨M, hM⟩ : ∃ M, M = w8.heap.size := ⟨_, rfl⟩
          obtain ⟨pre, hpre⟩ : ∃ pre, pre = es := ⟨_, rfl⟩
          obtain ⟨t, ht⟩ : ∃ t : El, t = (.slice none 0 0, []) := ⟨_, rfl⟩
          have hop : LOpen w8 w5.heap.size M v7 pre t := by
            rw [hM, hpre, ht]
            refine LAll.push (LAll.below HAL.out hxa) ?_ HG8.out
            rw [← HEL.out]
            exact HO8.out
          have hpk : lk = (pre.length : Int) := by rw [hpre, ← HEL.out]; exact hnew
          have htb : t.2.length ≤ 1000000 := by rw [ht]; exact Nat.zero_le _
          have heq : pre.map (fun t => t.2) ++ [t.2 ++ [(k : Int)]] = rowTo L (k + 1) := by rw [hpre, ht]; exact HEQ.out
          clear HAL HAW HO8 HG8 hM hpre ht HEQ HEL e1 hxa d3 hnew
          have HEQ := hid heq
          obtain ⟨g, cg, hv7, hg7, hg8⟩ := LOpen.form hop
          subst hv7
          have HOP := hid hop
          clear hop hg7 hg8 heq HB6 HGB
          have d3 := (HGB7.out.cells).k3
          simp only [] at d3
          obtain ⟨tv, tx⟩ := t
          obtain ⟨s1, s2⟩ := LOpen.cells HOP.out
          have hla := LOpen.last HOP.out
          obtain ⟨At, ct, htv⟩ := own_slice hla
          simp only [] at htv s1 HEQ hla htb
          subst htv
          rw [hpk] at HGB7
          obtain ⟨rn, hrn⟩ : ∃ rn, rn = pre.length := ⟨_, rfl⟩
          rw [← hrn] at HGB7
          have HRN := hid hrn
          rw [hpk, ← hrn] at d3
          rw [← hrn] at s1
          rw [← hrn]
          have q1 : (0 : Int) ≤ (rn : Int) := by omega
          have q2 : (rn : Int) < ((rn + 1 : Nat) : Int) := by omega
          have q3 : (rn : Int) < (rn : Int) + 1 := by omega
          have q4 : decide ((rn : Int) < 0) = false := decide_eq_false (by omega)
          obtain ⟨tn, htn⟩ : ∃ tn, tn = tx.length := ⟨_, rfl⟩
          have HTN := hid htn
          rw [← htn] at s1 hla htb
          have HLA := hid hla
          clear hrn htn hla hpk
          have HOPW := hid fun (W : World) (h : Below w8.heap.size w8 W) => LOpen.below HOP.out h
          have HGRO := hid fun (W0 : World) (h0 : Below w8.heap.size w8 W0) (W : World) (hg : World.grownBy W0 W (Value.ownBlock (.slice At tn ct))) => (show W.cell? ⟨g, rn, none⟩ = some (.slice At tn ct) ∧ W.frozen? ⟨g, rn, none⟩ = false ∧ g < W.heap.size from by
            rw [HTN.out] at hg ⊢
            rw [HRN.out]
            exact LOpen.grown (HOPW.out W0 h0) hg)
          have HPUT := hid fun (W0 : World) (h0 : Below w8.heap.size w8 W0) (W : World) (sv : Value) (ho : W.ownsRow M 3 1 sv (tn + 1) (ints tx ++ [.int .i64 (k : Int)])) (hg : World.grownBy W0 W (Value.ownBlock (.slice At tn ct))) => (show LSt (W.setCell ⟨g, rn, none⟩ sv) w5.heap.size L (k + 1) (.slice (some ⟨g, 0, none⟩) (rn + 1) cg) from by
            rw [HTN.out] at ho hg
            rw [HRN.out]
            exact LSt.next (LOpen.putSlice (x := (k : Int)) (HOPW.out W0 h0) ho hg) HEQ.out)
          have HBS := hid fun (W0 : World) (h0 : Below w8.heap.size w8 W0) (W : World) (sv : Value) (hg : World.grownBy W0 W (Value.ownBlock (.slice At tn ct))) => (show Below w5.heap.size w5 (W.setCell ⟨g, rn, none⟩ sv) from
            (below_app (B' := M) (bnext0 HB7.out h0) (own_keep HLA.out h0) hg (LOpen.hB HOP.out) (bnext0 HB7.out h0).size).setCell ((LOpen.own HOP.out).lt g rfl).1 sv)
          have HGD := hid fun (W0 : World) (h0 : Below w8.heap.size w8 W0) (W : World) (hg : World.grownBy W0 W (Value.ownBlock (.slice At tn ct))) => (show W.cell? ⟨b12, 3, none⟩ = some (.int .i64 (rn : Int)) from (GpB.cells (show GpB W b12 ⟨kn, s, ((rn : Int), a)⟩ from (hg.block b12 (lt_of_block (GpB.below HGB7.out h0)) (own_ne_obj (own_keep HLA.out h0) (GpB.below HGB7.out h0) (by decide))).trans (GpB.below HGB7.out h0))).k3)
          have HMS := hid (LOpen.hM HOP.out)
          clear HOPW
          have s1' := cell_old (o := .cells #[.int .i64 (k : Int)] 3) s1
          have d3' := cell_old (o := .cells #[.int .i64 (k : Int)] 3) d3
          go_region_law (refine step_one rfl (.tmp 48) (.tmp 50) Try.underlying65 Try.infoInt rfl (by decide) rfl M _ tn (ints tx) rfl (own_keep HLA.out (by first | exact ((Below.refl _ _).alloc (Nat.le_refl _) _).drew | exact (Below.refl _ _).drew)) ⟨w8.heap.size, 0, none⟩ (.int .i64 k) (by simp [Act.eval]) (cell_new1 _ _ _) rfl (by omega) (by have := HMS.out; simp; omega) ?_; intro sv w9 ho9 hg9; obtain ⟨A9, c9, rfl⟩ := own_slice ho9; obtain ⟨z1, z2, z3⟩ := HGRO.out _ (((Below.refl _ _).alloc (Nat.le_refl _) _).drew) w9 hg9; have d9 := HGD.out _ (((Below.refl _ _).alloc (Nat.le_refl _) _).drew) w9 hg9; have HP9 := hid (HPUT.out _ (((Below.refl _ _).alloc (Nat.le_refl _) _).drew) w9 _ ho9 hg9); have HX9 := hid (HBS.out _ (((Below.refl _ _).alloc (Nat.le_refl _) _).drew) w9 (.slice A9 (tn + 1) c9) hg9); clear ho9 hg9)
          all_goals
            go_wp2_with fail
            go_roundw
            case rel => exact ⟨k + 1, by have := HK1.out; omega, by go_num, HP9, HX9⟩
            case measure => simp [intOf]; have := HK1.out; omega
        · have e1 : (lk == (q : Int)) = false := by simpa using hnew
          have hq0 := hlk.resolve_left hnew
          obtain ⟨M, pre, t, hop, hpk, heq, hql⟩ := hol _ _ HS6.out hq0.1 hq0.2
          have htb : t.2.length ≤ 1000000 := by
            have h1 := rowTo_row_le L (k + 1) (t.2 ++ [(k : Int)]) (by rw [← heq]; simp)
            rw [List.length_append, List.length_singleton] at h1
            omega
          have HEQ := hid heq
          have HGB7 := HGB
          have HB7 := HB6
          obtain ⟨g, cg, hv7, hg7, hg8⟩ := LOpen.form hop
          rw [hv7] at hop
          injection hv7 with hv7a hv7b hv7c
          subst hv7a
          subst hv7b
          subst hv7c
          have HOP := hid hop
          clear hlk hrl hrr hrn hol HS6 hop hg7 hg8 heq HB6 HGB hql hq0 hnew HQ
          go_upto_region 10 with (fail)
          clear d3 e1
          have d3 := (HGB7.out.cells).k3
          simp only [] at d3
          obtain ⟨tv, tx⟩ := t
          obtain ⟨s1, s2⟩ := LOpen.cells HOP.out
          have hla := LOpen.last HOP.out
          obtain ⟨At, ct, htv⟩ := own_slice hla
          simp only [] at htv s1 HEQ hla htb
          subst htv
          rw [hpk] at HGB7
          obtain ⟨rn, hrn⟩ : ∃ rn, rn = pre.length := ⟨_, rfl⟩
          rw [← hrn] at HGB7
          have HRN := hid hrn
          rw [hpk, ← hrn] at d3
          rw [← hrn] at s1
          rw [← hrn]
          have q1 : (0 : Int) ≤ (rn : Int) := by omega
          have q2 : (rn : Int) < ((rn + 1 : Nat) : Int) := by omega
          have q3 : (rn : Int) < (rn : Int) + 1 := by omega
          have q4 : decide ((rn : Int) < 0) = false := decide_eq_false (by omega)
          obtain ⟨tn, htn⟩ : ∃ tn, tn = tx.length := ⟨_, rfl⟩
          have HTN := hid htn
          rw [← htn] at s1 hla htb
          have HLA := hid hla
          clear hrn htn hla hpk
          have HOPW := hid fun (W : World) (h : Below w6.heap.size w6 W) => LOpen.below HOP.out h
          have HGRO := hid fun (W0 : World) (h0 : Below w6.heap.size w6 W0) (W : World) (hg : World.grownBy W0 W (Value.ownBlock (.slice At tn ct))) => (show W.cell? ⟨g, rn, none⟩ = some (.slice At tn ct) ∧ W.frozen? ⟨g, rn, none⟩ = false ∧ g < W.heap.size from by
            rw [HTN.out] at hg ⊢
            rw [HRN.out]
            exact LOpen.grown (HOPW.out W0 h0) hg)
          have HPUT := hid fun (W0 : World) (h0 : Below w6.heap.size w6 W0) (W : World) (sv : Value) (ho : W.ownsRow M 3 1 sv (tn + 1) (ints tx ++ [.int .i64 (k : Int)])) (hg : World.grownBy W0 W (Value.ownBlock (.slice At tn ct))) => (show LSt (W.setCell ⟨g, rn, none⟩ sv) w5.heap.size L (k + 1) (.slice (some ⟨g, 0, none⟩) (rn + 1) co) from by
            rw [HTN.out] at ho hg
            rw [HRN.out]
            exact LSt.next (LOpen.putSlice (x := (k : Int)) (HOPW.out W0 h0) ho hg) HEQ.out)
          have HBS := hid fun (W0 : World) (h0 : Below w6.heap.size w6 W0) (W : World) (sv : Value) (hg : World.grownBy W0 W (Value.ownBlock (.slice At tn ct))) => (show Below w5.heap.size w5 (W.setCell ⟨g, rn, none⟩ sv) from
            (below_app (B' := M) (bnext0 HB7.out h0) (own_keep HLA.out h0) hg (LOpen.hB HOP.out) (bnext0 HB7.out h0).size).setCell ((LOpen.own HOP.out).lt g rfl).1 sv)
          have HGD := hid fun (W0 : World) (h0 : Below w6.heap.size w6 W0) (W : World) (hg : World.grownBy W0 W (Value.ownBlock (.slice At tn ct))) => (show W.cell? ⟨b12, 3, none⟩ = some (.int .i64 (rn : Int)) from (GpB.cells (show GpB W b12 ⟨kn, s, ((rn : Int), a)⟩ from (hg.block b12 (lt_of_block (GpB.below HGB7.out h0)) (own_ne_obj (own_keep HLA.out h0) (GpB.below HGB7.out h0) (by decide))).trans (GpB.below HGB7.out h0))).k3)
          have HMS := hid (LOpen.hM HOP.out)
          clear HOPW
          have s1' := cell_old (o := .cells #[.int .i64 (k : Int)] 3) s1
          have d3' := cell_old (o := .cells #[.int .i64 (k : Int)] 3) d3
          go_region_law (refine step_one rfl (.tmp 48) (.tmp 50) Try.underlying65 Try.infoInt rfl (by decide) rfl M _ tn (ints tx) rfl (own_keep HLA.out (by first | exact ((Below.refl _ _).alloc (Nat.le_refl _) _).drew | exact (Below.refl _ _).drew)) ⟨w6.heap.size, 0, none⟩ (.int .i64 k) (by simp [Act.eval]) (cell_new1 _ _ _) rfl (by omega) (by have := HMS.out; simp; omega) ?_; intro sv w9 ho9 hg9; obtain ⟨A9, c9, rfl⟩ := own_slice ho9; obtain ⟨z1, z2, z3⟩ := HGRO.out _ (((Below.refl _ _).alloc (Nat.le_refl _) _).drew) w9 hg9; have d9 := HGD.out _ (((Below.refl _ _).alloc (Nat.le_refl _) _).drew) w9 hg9; have HP9 := hid (HPUT.out _ (((Below.refl _ _).alloc (Nat.le_refl _) _).drew) w9 _ ho9 hg9); have HX9 := hid (HBS.out _ (((Below.refl _ _).alloc (Nat.le_refl _) _).drew) w9 (.slice A9 (tn + 1) c9) hg9); clear ho9 hg9)
          all_goals
            go_wp2_with fail
            go_roundw
            case rel => exact ⟨k + 1, by have := HK1.out; omega, by go_num, HP9, HX9⟩
            case measure => simp [intOf]; have := HK1.out; omega
      · obtain rfl : k = m := by omega
        obtain ⟨es, hal, hes⟩ := LSt.all hS.out hB.out.size
        have HX := hid (show LinIs 0 V w (.returned (.tuple #[.slice Ao (rowTo L k).length co, .int .i64 0])) wr from ⟨_, es, rfl, LAll.base_ hal (by have := HB5.out.size; have := HB1.out.size; omega), by rw [HK.out]; exact hes, HB1.out.trans (Below.mono (bnext0 HB5.out hB.out) HB1.out.size)⟩)
        clear hal hes HK hS HLS HGT
        have q0 : decide ((k : Int) < (k : Int)) = false := by simp
        go_wp2_with fail
        go_ret2
        exact HX.out
  · have HX := hid (hbad hb)
    have e0 : (begE P ss l d wd != 0) = true := by simpa using hb
    have HBG2 := hid (HBG.out.mono fun (e : Ending) (w' : World) (h : BegPost P ss l d wd A c w1 e w') => (show e = .returned (.tuple #[.agg #[.int .i64 0, .slice none 0 0, .slice none 0 0, .bool false], .int .i64 (begE P ss l d wd)]) ∧ Below w1.heap.size w1 w' from by
      obtain ⟨h1, h2 | ⟨h2, _⟩⟩ := h
      · exact ⟨h2.2, h1⟩
      · exact absurd h2 hb))
    clear HBG
    generalize begE P ss l d wd = BE at *
    generalize linV P ss l d wd = V at *
    generalize ss.length = N at *
    generalize l.length = n at *
    clear hbad hok hpln hb hw1 hb1 hdoc rs rn hv HV HRS
    go_enter Try.func28, Try.ntmps28
    go_upto_region 1 with (fail)
    simp only [Nat.add_assoc, Nat.reduceAdd]
    rw [← HW1.out]
    clear HW1
    obtain ⟨B0, hB0⟩ : ∃ B0, B0 = w.heap.size := ⟨_, rfl⟩
    obtain ⟨B1, hB1⟩ : ∃ B1, B1 = B0 + 1 := ⟨_, rfl⟩
    obtain ⟨B2, hB2⟩ : ∃ B2, B2 = B0 + 2 := ⟨_, rfl⟩
    rw [← hB0] at HC
    rw [← hB1, ← hB2] at HC
    rw [← hB0]
    try rw [← hB1]
    try rw [← hB2]
    clear hB0 hB1 hB2 hz1
    have hc := HC.out w1 (Below.refl _ _)
    have p0 := hc.c0; have p1 := hc.c1; have p2 := hc.c2; have p3 := hc.c3; have p4 := hc.c4
    clear hc
    go_upto_region 2 with (first | (go_at_call 46; refine HBG2.out.mono ?_; rintro e w2 ⟨rfl, hb2⟩; have HB2 := hid hb2; clear p0 p1 p2 p3 p4 hb2))
    have HB3 := hid (bnext0 HB2.out ((Below.refl w2.heap.size w2).alloc (Nat.le_refl _) (.cells #[.int .i64 0, .slice none 0 0, .slice none 0 0, .bool false] 93)))
    go_wp2_with fail
    go_ret2
    exact ⟨.slice none 0 0, [], rfl, LAll.nil _ _ (HB1.out.trans (HB3.out.mono HB1.out.size)).size, by rw [HX.out]; rfl, HB1.out.trans (HB3.out.mono HB1.out.size)⟩
end Go.Proofs.Ytfkcpcdndleboaa

/- WALK: the document's Lines (printed by gen_linesn.py). -/
namespace Go.Proofs.Ytfkcpcdndleboaa
open Go.RowKit
set_option maxRecDepth 100000 in
set_option maxHeartbeats 4000000 in
theorem LinesN_any (P : Int) (ss : List Sg) (l : List Nd) (hN : ss.length ≤ 1000000) (hv : ∀ s ∈ ss, s.vals.length ≤ 1000000) (hn : l.length ≤ 1000000) (d wd : Int) (A A2 : Option Addr) (c c2 : Nat) (w : World) (rs : Sgs w w.heap.size A ss) (rn : Nds w w.heap.size A2 l) :
    Calls Try.prog 29 #[.agg #[.int .i64 P, .slice A ss.length c], .agg #[.slice A2 l.length c2], .agg #[.int .i64 d, .int .i64 wd]] w (LinIs (begE P ss l d wd) (linV P ss l d wd) w) := by
  obtain ⟨w1, hw1⟩ : ∃ w1, w1 = ((w.alloc (.cells #[.int .i64 P, .slice A ss.length c] 24)).alloc (.cells #[.slice A2 l.length c2] 27)).alloc (.cells #[.int .i64 d, .int .i64 wd] 31) := ⟨_, rfl⟩
  have hb1 : Below w.heap.size w w1 := by rw [hw1]; exact (((Below.refl _ _).alloc (Nat.le_refl _) _).alloc (by simp) _).alloc (by simp; omega) _
  have hz1 : w1.heap.size = w.heap.size + 3 := by rw [hw1]; simp
  have hdoc : DocB w1 w.heap.size P (.slice A ss.length c) (.slice A2 l.length c2) d wd := by rw [hw1]; exact DocB.new _ _ _ _ _ _
  have HC := hid fun (W : World) (h : Below w1.heap.size w1 W) => (show DocC W w.heap.size (w.heap.size + 1) (w.heap.size + 2) P (.slice A ss.length c) (.slice A2 l.length c2) d wd from (hdoc.below h (by omega)).cells)
  have HBO := hid (both_any P ss l hN hv hn d wd A A2 c c2 w1 ((rs.below hb1).more hb1.size) ((rn.below hb1).more hb1.size))
  have HPL := hid fun (W : World) (h : Below w1.heap.size w1 W) => refPlain_any P ss l hN hv hn A A2 c c2 W ((rs.below (hb1.trans (h.mono hb1.size))).more (Nat.le_trans hb1.size h.size)) ((rn.below (hb1.trans (h.mono hb1.size))).more (Nat.le_trans hb1.size h.size))
  have HRS := hid fun (W : World) (h : Below w1.heap.size w1 W) => (show Sgs W W.heap.size A ss from (rs.below (hb1.trans (h.mono hb1.size))).more (Nat.le_trans hb1.size h.size))
  have hbad : begE P ss l d wd ≠ 0 → linV P ss l d wd = [] := fun h => if_neg h
  have hok : begE P ss l d wd = 0 → linV P ss l d wd = rowTo (layS ss (plR l l.length) (decide (d ≤ 2)) wd) (layS ss (plR l l.length) (decide (d ≤ 2)) wd).length := fun h => if_pos h
  have hpln : begE P ss l d wd = 0 → chkE P ss l = 0 ∧ plnL P ss l = plR l l.length ∧ Pln P ss (plR l l.length) := fun h => ⟨(beg_ok h).1, plnL_ok (beg_ok h).1, pln_of (beg_ok h).1⟩
  have HW1 := hid hw1; have HB1 := hid hb1; have HZ1 := hid hz1
  have HV := hid hv
  by_cases hb : begE P ss l d wd = 0
  · obtain ⟨hck, hpe, hp⟩ := hpln hb
    have hk := hok hb
    have hpg := page_ok (beg_ok hb).2
    rw [hb] at HBO ⊢
    rw [hpe, hck] at HPL
    generalize plR l l.length = pl at *
    have hnp := hp.len
    have HGR := hid fun (A3 : Option Addr) (c3 : Nat) (W : World) (h : Below w1.heap.size w1 W) (r : Nds W W.heap.size A3 pl) => rstands_any P ss pl d wd hp hN HV.out (by omega) hpg.2.2 A A3 c c3 W (HRS.out W h) r
    have HGT := hid fun (j : Nat) (hj : j < (layS ss pl (decide (d ≤ 2)) wd).length) => (show (flatT (layS ss pl (decide (d ≤ 2)) wd))[j * 2 + 0]? = some (.int .i64 ((layS ss pl (decide (d ≤ 2)) wd).getD j (0, 0)).1) from by
      have e : (layS ss pl (decide (d ≤ 2)) wd).getD j (0, 0) = (layS ss pl (decide (d ≤ 2)) wd)[j] := by rw [List.getD_eq_getElem?_getD, List.getElem?_eq_getElem hj]; rfl
      rw [flatT_get _ j 0 hj (by decide), e]
      rfl)
    have HFL := hid (flatT_len (layS ss pl (decide (d ≤ 2)) wd))
    have hls := layS_linSt ss pl (decide (d ≤ 2)) wd
    have hml : (layS ss pl (decide (d ≤ 2)) wd).length ≤ 1000000 := by
      have := kidsOf_len (l := pl) (node := -1) (by omega)
      unfold layS
      rw [stands_len, List.length_map]
      omega
    have HK := hid hk
    generalize linV P ss l d wd = V at *
    generalize layS ss pl (decide (d ≤ 2)) wd = L at *
    obtain ⟨m, hm⟩ : ∃ m, m = L.length := ⟨_, rfl⟩
    rw [← hm] at HK hml HGT HGR HFL
    generalize flatT L = FG at *
    have HLS := hid fun (k : Nat) (hk : k < m) => hls k (by omega)
    generalize decide (d ≤ 2) = rows at *
    clear hls hk hbad hok hpln hck hpe hw1 hb1 hdoc rs rn hv HV HRS hp hm
    clear hb
    generalize ss.length = N at *
    generalize l.length = n at *
    go_enter Try.func29, Try.ntmps29
    go_upto_region 1 with (fail)
    simp only [Nat.add_assoc, Nat.reduceAdd]
    rw [← HW1.out]
    clear HW1
    obtain ⟨B0, hB0⟩ : ∃ B0, B0 = w.heap.size := ⟨_, rfl⟩
    obtain ⟨B1, hB1⟩ : ∃ B1, B1 = B0 + 1 := ⟨_, rfl⟩
    obtain ⟨B2, hB2⟩ : ∃ B2, B2 = B0 + 2 := ⟨_, rfl⟩
    rw [← hB0] at HC
    rw [← hB1, ← hB2] at HC
    rw [← hB0]
    try rw [← hB1]
    try rw [← hB2]
    clear hB0 hB1 hB2 hz1
    have hc := HC.out w1 (Below.refl _ _)
    have p0 := hc.c0; have p1 := hc.c1; have p2 := hc.c2; have p3 := hc.c3; have p4 := hc.c4
    clear hc
    go_upto_region 5 with (first | (go_at_call 49; refine HBO.out.mono ?_; rintro e w2 ⟨rfl, hb2⟩; have HB2 := hid hb2; have hc := HC.out w2 hb2; clear p0 p1 p2 p3 p4; have p0 := hc.c0; have p1 := hc.c1; have p2 := hc.c2; clear hc hb2) | (go_at_call 20; refine (HPL.out w2 HB2.out).mono ?_; rintro e w3 ⟨v3, rfl, ho3, hb3⟩; obtain ⟨A3, c3, rfl⟩ := own_slice ho3; have HO3 := hid ho3; have HB3 := hid (bnext0 HB2.out hb3); have HSZ3 := hid hb3.size; clear p0 p1 p2 ho3 hb3))
    obtain ⟨w4, hw4⟩ : ∃ w4, w4 = w3.alloc (.cells #[.slice A3 pl.length c3] 27) := ⟨_, rfl⟩
    obtain ⟨b11, hb11⟩ : ∃ b11, b11 = w3.heap.size := ⟨_, rfl⟩
    have htx : TxB w4 b11 (.slice A3 pl.length c3) := by rw [hw4, hb11]; exact nw_blk rfl
    have hb34 : Below w3.heap.size w3 w4 := by rw [hw4]; exact (Below.refl _ _).alloc (Nat.le_refl _) _
    have HRN4 := hid (show Nds w4 w4.heap.size A3 pl from Reads.more ((Reads.of_own HO3.out).below hb34) hb34.size)
    have HB4 := hid (bnext0 HB3.out hb34)
    rw [← hw4]
    try rw [← hb11]
    have HTX := hid htx
    clear hw4 hb11 htx hb34 HO3 HSZ3
    have p9 := HTX.out.cells
    have hc := HC.out w4 HB4.out
    have p0 := hc.c0; have p1 := hc.c1; have p3 := hc.c3; have p4 := hc.c4
    clear hc
    have HG := hid (HGR.out A3 c3 _ HB4.out HRN4.out)
    go_wp2_with (first | (go_at_call 62; refine HG.out.mono ?_; rintro e w5 ⟨v5, rfl, ho5, hb5⟩; obtain ⟨A5, c5, rfl⟩ := own_slice ho5; have HO5 := hid (Reads.of_own ho5); have HB5 := hid (bnext0 HB4.out hb5); clear p0 p1 p3 p4 p9 ho5 hb5))
    clear HG HGR HPL HBO HRN4 HTX
    go_loopw [12, 13] (fun ov kv wr => ∃ k : Nat, k ≤ m ∧ kv = .int .i64 k ∧ Hid (LSt wr w5.heap.size L k ov) ∧ Hid (Below w5.heap.size w5 wr)) (fun _ kv _ => m - (intOf kv).toNat)
    case atStart => exact ⟨0, by omega, rfl, hid (.inl ⟨rfl, rfl⟩), hid (Below.refl _ _)⟩
    case round =>
      obtain ⟨k, hk, rfl, hS, hB⟩ := hrel
      obtain ⟨Ao, co, rfl⟩ := LSt.fin hS.out hB.out.size
      by_cases hkm : k < m
      · have t3 := HGT.out k hkm
        obtain ⟨b5, o5, rfl, hb5, hc5⟩ := Reads.at0 HO5.out (by omega) (by rw [HFL.out]; omega)
        have r3 := hc5 _ _ t3
        rw [Nat.add_zero] at r3
        have q0 : (k : Int) < (m : Int) := by omega
        have hlk := HLS.out k hkm
        have hrl := rowTo_len_le L k
        have hrn := rowTo_new (L := L) (k := k)
        have hol := fun (W : World) (v : Value) (h : LSt W w5.heap.size L k v) => LSt.old h
        clear hc5 t3
        obtain ⟨lk, hlk2⟩ : ∃ lk, lk = (L.getD k (0, 0)).1 := ⟨_, rfl⟩
        obtain ⟨q, hq⟩ : ∃ q, q = (rowTo L k).length := ⟨_, rfl⟩
        rw [← hlk2] at r3 hlk hrn
        rw [← hq] at hlk hrl hrn hS
        rw [← hq]
        simp only [← hlk2, ← hq] at hol
        clear hlk2
        have HQ := hid hq
        have HLK := hid fun (W : World) (h : Below w5.heap.size w5 W) => (h.cell (p := ⟨b5, o5 + k * 2, none⟩) hb5).trans r3
        have HS6 := hS
        clear hS hq r3 hb5
        have HK1 := hid (show k + 1 ≤ m from hkm)
        have d3 := HLK.out wr hB.out
        go_upto_region 10 with (fail)
        by_cases hnew : lk = (q : Int)

        · have e1 : (lk == (q : Int)) = true := by simpa using hnew
          obtain ⟨es, hal, hes⟩ := LSt.all HS6.out hB.out.size
          have hel : q = es.length := by rw [HQ.out, ← hes, List.length_map]
          have hrt := hrn hnew
          rw [← hes] at hrt
          have HEQ := hid (show es.map (fun t => t.2) ++ [[] ++ [(k : Int)]] = rowTo L (k + 1) from hrt.symm)
          have HAL := hid hal
          have hqb : q ≤ 1000000 := by omega
          have haw : wr.ownsRow w5.heap.size 65 1 (.slice Ao q co) q (cellsL es) := by rw [hel]; have := hal.own; rwa [hel] at this
          have HAW := hid haw
          have HEL := hid hel
          clear hlk hrl hrn hol hal hes hrt HS6 haw hel
          go_upto_region 12 with (at_builtin; refine app_one rfl (.tmp 45) (.tmp 46) Try.underLns Try.infoLns rfl (by decide) rfl w5.heap.size _ q (cellsL es) rfl (own_keep HAW.out ((Below.refl _ _).alloc (Nat.le_refl _) _)) ⟨wr.heap.size, 0, none⟩ (.slice none 0 0) rfl (cell_new1 _ _ _) rfl (by omega) (by have := hB.out.size; simp; omega) ?_; intro v7 w8 ho8 hg8; have HO8 := hid ho8; have HG8 := hid hg8; clear ho8 hg8)
          have hxa : Below wr.heap.size wr (wr.alloc (.cells #[.slice none 0 0] 65)) := (Below.refl _ _).alloc (Nat.le_refl _) _
          have HB7 := hid (show Below w5.heap.size w5 w8 from below_app (B' := w5.heap.size) (bnext0 hB.out hxa) (own_keep HAW.out hxa) HG8.out (Nat.le_refl _) (bnext0 hB.out hxa).size)
          obtain ⟨M, hM⟩ : ∃ M, M = w8.heap.size := ⟨_, rfl⟩
          obtain ⟨pre, hpre⟩ : ∃ pre, pre = es := ⟨_, rfl⟩
          obtain ⟨t, ht⟩ : ∃ t : El, t = (.slice none 0 0, []) := ⟨_, rfl⟩
          have hop : LOpen w8 w5.heap.size M v7 pre t := by
            rw [hM, hpre, ht]
            refine LAll.push (LAll.below HAL.out hxa) ?_ HG8.out
            rw [← HEL.out]
            exact HO8.out
          have hpk : lk = (pre.length : Int) := by rw [hpre, ← HEL.out]; exact hnew
          have htb : t.2.length ≤ 1000000 := by rw [ht]; exact Nat.zero_le _
          have heq : pre.map (fun t => t.2) ++ [t.2 ++ [(k : Int)]] = rowTo L (k + 1) := by rw [hpre, ht]; exact HEQ.out
          clear HAL HAW HO8 HG8 hM hpre ht HEQ HEL e1 hxa d3 hnew
          have HEQ := hid heq
          obtain ⟨g, cg, hv7, hg7, hg8⟩ := LOpen.form hop
          subst hv7
          have HOP := hid hop
          clear hop hg7 hg8 heq hB
          have d3 := HLK.out w8 HB7.out
          obtain ⟨tv, tx⟩ := t
          obtain ⟨s1, s2⟩ := LOpen.cells HOP.out
          have hla := LOpen.last HOP.out
          obtain ⟨At, ct, htv⟩ := own_slice hla
          simp only [] at htv s1 HEQ hla htb
          subst htv
          rw [hpk] at HLK
          obtain ⟨rn, hrn⟩ : ∃ rn, rn = pre.length := ⟨_, rfl⟩
          have HRN := hid hrn
          rw [hpk, ← hrn] at d3
          rw [← hrn] at s1 HLK
          rw [← hrn]
          have q1 : (0 : Int) ≤ (rn : Int) := by omega
          have q2 : (rn : Int) < ((rn + 1 : Nat) : Int) := by omega
          have q3 : (rn : Int) < (rn : Int) + 1 := by omega
          have q4 : decide ((rn : Int) < 0) = false := decide_eq_false (by omega)
          obtain ⟨tn, htn⟩ : ∃ tn, tn = tx.length := ⟨_, rfl⟩
          have HTN := hid htn
          rw [← htn] at s1 hla htb
          have HLA := hid hla
          clear hrn htn hla hpk
          have HOPW := hid fun (W : World) (h : Below w8.heap.size w8 W) => LOpen.below HOP.out h
          have HGRO := hid fun (W0 : World) (h0 : Below w8.heap.size w8 W0) (W : World) (hg : World.grownBy W0 W (Value.ownBlock (.slice At tn ct))) => (show W.cell? ⟨g, rn, none⟩ = some (.slice At tn ct) ∧ W.frozen? ⟨g, rn, none⟩ = false ∧ g < W.heap.size from by
            rw [HTN.out] at hg ⊢
            rw [HRN.out]
            exact LOpen.grown (HOPW.out W0 h0) hg)
          have HPUT := hid fun (W0 : World) (h0 : Below w8.heap.size w8 W0) (W : World) (sv : Value) (ho : W.ownsRow M 3 1 sv (tn + 1) (ints tx ++ [.int .i64 (k : Int)])) (hg : World.grownBy W0 W (Value.ownBlock (.slice At tn ct))) => (show LSt (W.setCell ⟨g, rn, none⟩ sv) w5.heap.size L (k + 1) (.slice (some ⟨g, 0, none⟩) (rn + 1) cg) from by
            rw [HTN.out] at ho hg
            rw [HRN.out]
            exact LSt.next (LOpen.putSlice (x := (k : Int)) (HOPW.out W0 h0) ho hg) HEQ.out)
          have HBA := hid fun (W0 : World) (h0 : Below w8.heap.size w8 W0) (W : World) (hg : World.grownBy W0 W (Value.ownBlock (.slice At tn ct))) => (show Below w5.heap.size w5 W from
            below_app (B' := M) (bnext0 HB7.out h0) (own_keep HLA.out h0) hg (LOpen.hB HOP.out) (bnext0 HB7.out h0).size)
          have HBS := hid fun (W : World) (h : Below w5.heap.size w5 W) (sv : Value) => (show Below w5.heap.size w5 (W.setCell ⟨g, rn, none⟩ sv) from h.setCell ((LOpen.own HOP.out).lt g rfl).1 sv)
          have HMS := hid (LOpen.hM HOP.out)
          have s1' := cell_old (o := .cells #[.int .i64 (k : Int)] 3) s1
          have d3' := cell_old (o := .cells #[.int .i64 (k : Int)] 3) d3
          clear HOPW
          go_region_law (refine step_one rfl (.tmp 61) (.tmp 63) Try.underlying65 Try.infoInt rfl (by decide) rfl M _ tn (ints tx) rfl (own_keep HLA.out (by first | exact ((Below.refl _ _).alloc (Nat.le_refl _) _).drew | exact (Below.refl _ _).drew)) ⟨w8.heap.size, 0, none⟩ (.int .i64 k) (by simp [Act.eval]) (cell_new1 _ _ _) rfl (by omega) (by have := HMS.out; simp; omega) ?_; intro sv w9 ho9 hg9; obtain ⟨A9, c9, rfl⟩ := own_slice ho9; obtain ⟨z1, z2, z3⟩ := HGRO.out _ (((Below.refl _ _).alloc (Nat.le_refl _) _).drew) w9 hg9; have hx9 := HBA.out _ (((Below.refl _ _).alloc (Nat.le_refl _) _).drew) w9 hg9; have d9 := HLK.out w9 hx9; have HP9 := hid (HPUT.out _ (((Below.refl _ _).alloc (Nat.le_refl _) _).drew) w9 _ ho9 hg9); have HX9 := hid (HBS.out w9 hx9 (.slice A9 (tn + 1) c9)); clear ho9 hg9 hx9)
          all_goals
            go_wp2_with fail
            go_roundw
            case rel => exact ⟨k + 1, by have := HK1.out; omega, by go_num, HP9, HX9⟩
            case measure => simp [intOf]; have := HK1.out; omega
        · have e1 : (lk == (q : Int)) = false := by simpa using hnew
          have hq0 := hlk.resolve_left hnew
          obtain ⟨M, pre, t, hop, hpk, heq, hql⟩ := hol _ _ HS6.out hq0.1 hq0.2
          have htb : t.2.length ≤ 1000000 := by
            have h1 := rowTo_row_le L (k + 1) (t.2 ++ [(k : Int)]) (by rw [← heq]; simp)
            rw [List.length_append, List.length_singleton] at h1
            omega
          have HEQ := hid heq
          have HB7 := hB
          obtain ⟨g, cg, hv7, hg7, hg8⟩ := LOpen.form hop
          rw [hv7] at hop
          injection hv7 with hv7a hv7b hv7c
          subst hv7a
          subst hv7b
          subst hv7c
          have HOP := hid hop
          clear hlk hrl hrn hol HS6 hop hg7 hg8 heq hB hql hq0 hnew HQ
          go_upto_region 12 with (fail)
          clear d3 e1
          have d3 := HLK.out wr HB7.out
          obtain ⟨tv, tx⟩ := t
          obtain ⟨s1, s2⟩ := LOpen.cells HOP.out
          have hla := LOpen.last HOP.out
          obtain ⟨At, ct, htv⟩ := own_slice hla
          simp only [] at htv s1 HEQ hla htb
          subst htv
          rw [hpk] at HLK
          obtain ⟨rn, hrn⟩ : ∃ rn, rn = pre.length := ⟨_, rfl⟩
          have HRN := hid hrn
          rw [hpk, ← hrn] at d3
          rw [← hrn] at s1 HLK
          rw [← hrn]
          have q1 : (0 : Int) ≤ (rn : Int) := by omega
          have q2 : (rn : Int) < ((rn + 1 : Nat) : Int) := by omega
          have q3 : (rn : Int) < (rn : Int) + 1 := by omega
          have q4 : decide ((rn : Int) < 0) = false := decide_eq_false (by omega)
          obtain ⟨tn, htn⟩ : ∃ tn, tn = tx.length := ⟨_, rfl⟩
          have HTN := hid htn
          rw [← htn] at s1 hla htb
          have HLA := hid hla
          clear hrn htn hla hpk
          have HOPW := hid fun (W : World) (h : Below wr.heap.size wr W) => LOpen.below HOP.out h
          have HGRO := hid fun (W0 : World) (h0 : Below wr.heap.size wr W0) (W : World) (hg : World.grownBy W0 W (Value.ownBlock (.slice At tn ct))) => (show W.cell? ⟨g, rn, none⟩ = some (.slice At tn ct) ∧ W.frozen? ⟨g, rn, none⟩ = false ∧ g < W.heap.size from by
            rw [HTN.out] at hg ⊢
            rw [HRN.out]
            exact LOpen.grown (HOPW.out W0 h0) hg)
          have HPUT := hid fun (W0 : World) (h0 : Below wr.heap.size wr W0) (W : World) (sv : Value) (ho : W.ownsRow M 3 1 sv (tn + 1) (ints tx ++ [.int .i64 (k : Int)])) (hg : World.grownBy W0 W (Value.ownBlock (.slice At tn ct))) => (show LSt (W.setCell ⟨g, rn, none⟩ sv) w5.heap.size L (k + 1) (.slice (some ⟨g, 0, none⟩) (rn + 1) co) from by
            rw [HTN.out] at ho hg
            rw [HRN.out]
            exact LSt.next (LOpen.putSlice (x := (k : Int)) (HOPW.out W0 h0) ho hg) HEQ.out)
          have HBA := hid fun (W0 : World) (h0 : Below wr.heap.size wr W0) (W : World) (hg : World.grownBy W0 W (Value.ownBlock (.slice At tn ct))) => (show Below w5.heap.size w5 W from
            below_app (B' := M) (bnext0 HB7.out h0) (own_keep HLA.out h0) hg (LOpen.hB HOP.out) (bnext0 HB7.out h0).size)
          have HBS := hid fun (W : World) (h : Below w5.heap.size w5 W) (sv : Value) => (show Below w5.heap.size w5 (W.setCell ⟨g, rn, none⟩ sv) from h.setCell ((LOpen.own HOP.out).lt g rfl).1 sv)
          have HMS := hid (LOpen.hM HOP.out)
          have s1' := cell_old (o := .cells #[.int .i64 (k : Int)] 3) s1
          have d3' := cell_old (o := .cells #[.int .i64 (k : Int)] 3) d3
          clear HOPW
          go_region_law (refine step_one rfl (.tmp 61) (.tmp 63) Try.underlying65 Try.infoInt rfl (by decide) rfl M _ tn (ints tx) rfl (own_keep HLA.out (by first | exact ((Below.refl _ _).alloc (Nat.le_refl _) _).drew | exact (Below.refl _ _).drew)) ⟨wr.heap.size, 0, none⟩ (.int .i64 k) (by simp [Act.eval]) (cell_new1 _ _ _) rfl (by omega) (by have := HMS.out; simp; omega) ?_; intro sv w9 ho9 hg9; obtain ⟨A9, c9, rfl⟩ := own_slice ho9; obtain ⟨z1, z2, z3⟩ := HGRO.out _ (((Below.refl _ _).alloc (Nat.le_refl _) _).drew) w9 hg9; have hx9 := HBA.out _ (((Below.refl _ _).alloc (Nat.le_refl _) _).drew) w9 hg9; have d9 := HLK.out w9 hx9; have HP9 := hid (HPUT.out _ (((Below.refl _ _).alloc (Nat.le_refl _) _).drew) w9 _ ho9 hg9); have HX9 := hid (HBS.out w9 hx9 (.slice A9 (tn + 1) c9)); clear ho9 hg9 hx9)
          all_goals
            go_wp2_with fail
            go_roundw
            case rel => exact ⟨k + 1, by have := HK1.out; omega, by go_num, HP9, HX9⟩
            case measure => simp [intOf]; have := HK1.out; omega
      · obtain rfl : k = m := by omega
        obtain ⟨es, hal, hes⟩ := LSt.all hS.out hB.out.size
        have HX := hid (show LinIs 0 V w (.returned (.tuple #[.slice Ao (rowTo L k).length co, .int .i64 0])) wr from ⟨_, es, rfl, LAll.base_ hal (by have := HB5.out.size; have := HB1.out.size; omega), by rw [HK.out]; exact hes, HB1.out.trans (Below.mono (bnext0 HB5.out hB.out) HB1.out.size)⟩)
        clear hal hes HK hS HLS HGT
        have q0 : decide ((k : Int) < (k : Int)) = false := by simp
        go_wp2_with fail
        go_ret2
        exact HX.out
  · have HX := hid (hbad hb)
    have e0 : (begE P ss l d wd != 0) = true := by simpa using hb
    generalize begE P ss l d wd = BE at *
    generalize linV P ss l d wd = V at *
    generalize ss.length = N at *
    generalize l.length = n at *
    clear hbad hok hpln hb hw1 hb1 hdoc rs rn hv HV HRS HPL
    go_enter Try.func29, Try.ntmps29
    go_upto_region 1 with (fail)
    simp only [Nat.add_assoc, Nat.reduceAdd]
    rw [← HW1.out]
    clear HW1
    obtain ⟨B0, hB0⟩ : ∃ B0, B0 = w.heap.size := ⟨_, rfl⟩
    obtain ⟨B1, hB1⟩ : ∃ B1, B1 = B0 + 1 := ⟨_, rfl⟩
    obtain ⟨B2, hB2⟩ : ∃ B2, B2 = B0 + 2 := ⟨_, rfl⟩
    rw [← hB0] at HC
    rw [← hB1, ← hB2] at HC
    rw [← hB0]
    try rw [← hB1]
    try rw [← hB2]
    clear hB0 hB1 hB2 hz1
    have hc := HC.out w1 (Below.refl _ _)
    have p0 := hc.c0; have p1 := hc.c1; have p2 := hc.c2; have p3 := hc.c3; have p4 := hc.c4
    clear hc
    go_wp2_with (first | (go_at_call 49; refine HBO.out.mono ?_; rintro e w2 ⟨rfl, hb2⟩; have HB2 := hid hb2; clear p0 p1 p2 p3 p4 hb2))
    go_ret2
    exact ⟨.slice none 0 0, [], rfl, LAll.nil _ _ (HB1.out.trans (HB2.out.mono HB1.out.size)).size, by rw [HX.out]; rfl, HB1.out.trans (HB2.out.mono HB1.out.size)⟩
end Go.Proofs.Ytfkcpcdndleboaa
