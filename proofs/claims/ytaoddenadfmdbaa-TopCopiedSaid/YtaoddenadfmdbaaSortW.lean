/- WALK: the sort of the variants, at a slice of the call's own. -/
import Derived.Test.YtaoddenadfmdbaaSort
import Derived.Test.YtaoddenadfmdbaaStrW
namespace Go.Proofs.Ytaoddenadfmdbaa
open Go.RowKit Go.Shelf Go.Lib Go.Sort
theorem own_putRow {w : World} {base g n cap : Nat} {e : TypeId} {xs : List Value} (h : w.ownsRow base e 3 (.slice (some ⟨g, 0, none⟩) n cap) n xs) (F : Array Value) (hF : F.size = xs.length) :
    (putRow id w g 0 F).ownsRow base e 3 (.slice (some ⟨g, 0, none⟩) n cap) n F.toList ∧ w.grownBy (putRow id w g 0 F) (some g) := by
  have key : ∀ k, k ≤ xs.length → (putRow id w g 0 (F.toList.take k ++ xs.drop k).toArray).ownsRow base e 3 (.slice (some ⟨g, 0, none⟩) n cap) n (F.toList.take k ++ xs.drop k) ∧ w.grownBy (putRow id w g 0 (F.toList.take k ++ xs.drop k).toArray) (some g) := by
    intro k
    induction k with
    | zero =>
      intro _
      have hH : Holds id w g 0 xs.toArray := fun j hj => by
        have hj' : j < xs.length := by simpa using hj
        refine ⟨?_, h.frozenAt _⟩
        rw [Nat.zero_add, h.cellAt j (by rw [← h.1]; exact hj')]
        simp [hj']
      simp only [List.take_zero, List.drop_zero, List.nil_append]
      rw [putRow_self id w g 0 _ hH]
      exact ⟨h, ⟨rfl, rfl, rfl, Nat.le_refl _, fun _ _ _ => rfl⟩⟩
    | succ k ih =>
      intro hk
      obtain ⟨h1, h2⟩ := ih (by omega)
      have hkF : k < F.toList.length := by simp; omega
      have e1 : F.toList.take (k + 1) ++ xs.drop (k + 1) = (F.toList.take k ++ xs.drop k).set k F.toList[k] := by
        rw [List.set_append_right _ _ (by rw [List.length_take]; omega), List.length_take, Nat.min_eq_left (by omega), Nat.sub_self, List.drop_eq_getElem_cons (by omega : k < xs.length), List.set_cons_zero, List.take_add_one, List.getElem?_eq_getElem hkF, List.append_assoc]
        rfl
      have e2 : putRow id w g 0 (F.toList.take (k + 1) ++ xs.drop (k + 1)).toArray = (putRow id w g 0 (F.toList.take k ++ xs.drop k).toArray).setCell ⟨g, k, none⟩ F.toList[k] := by
        have := putRow_set id w g 0 (F.toList.take k ++ xs.drop k).toArray k F.toList[k] (by simp; omega)
        rw [Nat.zero_add] at this
        rw [e1]
        rw [show (F.toList.take k ++ xs.drop k).toArray.setIfInBounds k F.toList[k] = ((F.toList.take k ++ xs.drop k).set k F.toList[k]).toArray from by simp] at this
        exact this.symm
      obtain ⟨h3, h4⟩ := h1.stored k F.toList[k]
      rw [e2]
      refine ⟨by rw [e1]; exact h3, ⟨h4.os.trans h2.os, h4.tape.trans h2.tape, h4.output.trans h2.output, Nat.le_trans h2.size h4.size, fun j hj hne => (h4.block j (Nat.lt_of_lt_of_le hj h2.size) hne).trans (h2.block j hj hne)⟩⟩
  have := key xs.length (Nat.le_refl _)
  have e : F.toList.take xs.length ++ xs.drop xs.length = F.toList := by rw [List.drop_length, List.append_nil, List.take_of_length_le (by simp; omega)]
  rw [e] at this
  simpa using this
theorem grown_grow (w : World) (os : Array Obj) : w.grownBy (grow w os) none :=
  ⟨rfl, rfl, rfl, by rw [size_grow]; omega, fun k hk _ => by simp [grow, Array.getElem?_append, hk]⟩
def toEn (t : Vb) : En := (t.1.1, t.1.2.1, .slice t.1.2.2.1 t.1.2.2.2.1 t.1.2.2.2.2.1, t.1.2.2.2.2.2)
theorem toEn_of : ∀ (es : List En), (∀ t ∈ es, 0 ≤ t.1 ∧ t.1 ≤ 1000 ∧ ∃ A n c, t.2.2.1 = .slice A n c) → ∃ vs : List Vb, es = vs.map toEn
  | [], _ => ⟨[], rfl⟩
  | t :: r, h => by
    obtain ⟨vs, hvs⟩ := toEn_of r fun x hx => h x (by simp [hx])
    obtain ⟨h1, h2, A, n, c, h3⟩ := h t (by simp)
    obtain ⟨a, b, v, l⟩ := t
    simp only at h1 h2 h3
    subst h3
    exact ⟨⟨(a, b, A, n, c, l), h1, h2⟩ :: vs, by rw [hvs]; rfl⟩
theorem cellsE_at : ∀ (vs : List Vb) (i : Nat), i < vs.length * 3 → (cellsE (vs.map toEn))[i]? = some ((encV (vs[i / 3]?.getD default))[i % 3]!)
  | [], i, h => by simp at h
  | t :: r, 0, h => by simp [cellsE, toEn, encV]
  | t :: r, 1, h => by simp [cellsE, toEn, encV]
  | t :: r, 2, h => by simp [cellsE, toEn, encV]
  | t :: r, i + 3, h => by
    have ih := cellsE_at r i (by simp at h; omega)
    rw [show (i + 3) / 3 = i / 3 + 1 by omega, show (i + 3) % 3 = i % 3 by omega, List.getElem?_cons_succ, ← ih]
    simp [cellsE, toEn]
theorem flatK_cells (vs : List Vb) : (flatK encV 3 vs.toArray).toList = cellsE (vs.map toEn) := by
  refine List.ext_getElem? fun i => ?_
  by_cases hi : i < vs.length * 3
  · rw [cellsE_at vs i hi]
    have h2 : i / 3 < vs.length := by omega
    simp [flatK, hi, h2]
  · rw [List.getElem?_eq_none (by simp [size_flatK]; omega), List.getElem?_eq_none (by rw [cellsE_len]; simp; omega)]
/-- es' is es, sorted by place, in which the elements of each place stand as they stood. -/
def StabE (es es' : List En) : Prop := es'.length = es.length ∧ (∀ a : Int, es'.filter (fun t => decide (t.1 = a)) = es.filter (fun t => decide (t.1 = a))) ∧ es'.Pairwise (fun x y => x.1 ≤ y.1)
theorem Stab.toE {vs : List Vb} {d' : Array Vb} (h : Stab vs.toArray d') : StabE (vs.map toEn) (d'.toList.map toEn) := by
  obtain ⟨⟨h1, h2⟩, h3⟩ := h
  refine ⟨by simp; simpa using h1, fun a => ?_, ?_⟩
  · have := congrArg (List.map toEn) (h2 a)
    rw [List.filter_map, List.filter_map]
    exact this
  · rw [List.pairwise_map, List.pairwise_iff_getElem]
    intro i j hi hj hij
    simp at hi hj
    have := h3 i j (Nat.zero_le _) hij (by rw [← h1]; exact hj)
    rw [getElem!_pos d' i hi, getElem!_pos d' j hj] at this
    exact Int.not_lt.1 (of_decide_eq_false this)
theorem stab_mem {es es' : List En} (h : StabE es es') {t : En} (ht : t ∈ es') : t ∈ es := by
  have h1 : t ∈ es'.filter (fun x => decide (x.1 = t.1)) := List.mem_filter.2 ⟨ht, by simp⟩
  rw [h.2.1] at h1
  exact (List.mem_filter.1 h1).1
theorem ins_none (f : Value) (w : World) :
    Calls Try.prog 45 #[.slice none 0 0, .int .i64 0, .int .i64 0, f] w fun e w' => e = .returned (.tuple #[]) ∧ w' = w := by
  go_enter Try.func45, Try.ntmps45
  go_wp2_with fail
  go_loopw [8] (fun i wr => i = .int .i64 1 ∧ wr = w) (fun _ _ => 0)
  case atStart => exact ⟨rfl, rfl⟩
  case round =>
    obtain ⟨rfl, hwr⟩ := hrel
    go_wp2_with fail
    go_end0
    exact ⟨rfl, rfl⟩
set_option maxRecDepth 100000 in
set_option maxHeartbeats 1000000 in
theorem stable_none (f : Value) (w : World) :
    Calls Try.prog 30 #[.slice none 0 0, .int .i64 0, f] w fun e w' => e = .returned (.tuple #[]) ∧ w' = w := by
  go_enter Try.func30, Try.ntmps30
  go_wp2_with fail
  go_loopw [7, 8] (fun a b wr => a = .int .i64 0 ∧ b = .int .i64 20 ∧ wr = w) (fun _ _ _ => 0)
  case atStart => exact ⟨rfl, rfl, rfl⟩
  case round =>
    obtain ⟨rfl, rfl, hwr⟩ := hrel
    have hwr2 := hwr.symm
    subst hwr2
    clear hwr
    go_wp2_with (go_at_call 45; refine (ins_none _ _).mono ?_; rintro e w' ⟨rfl, hw⟩)
    go_loopw [6] (fun a wr => a = .int .i64 20 ∧ wr = w) (fun _ _ => 0)
    case atStart => exact ⟨rfl, rfl⟩
    case round =>
      obtain ⟨rfl, hw2⟩ := hrel
      go_wp2_with fail
      go_end0
      exact ⟨rfl, rfl⟩
set_option maxRecDepth 100000 in
set_option maxHeartbeats 1000000 in
theorem sort_any (base : Nat) (v : Value) (es : List En) (w : World) (h : SAll w base 51 v es) (hk : ∀ t ∈ es, 0 ≤ t.1 ∧ t.1 ≤ 1000) (hn : es.length < 20) :
    Calls Try.prog 18 #[v, .func (.func 19) #[] #[]] w fun e w' => e = .returned (.tuple #[]) ∧ ∃ es', SAll w' base 51 v es' ∧ StabE es es' ∧ Below base w w' := by
  rcases h.own.2 with ⟨rfl, h0⟩ | ⟨g, cap, cur, rfl, hb, hg, hrest⟩
  · have hes : es = [] := List.eq_nil_of_length_eq_zero h0
    subst hes
    have hS : StabE [] [] := ⟨rfl, fun _ => rfl, List.Pairwise.nil⟩
    have HS := hid hS
    have H := hid h
    clear hS h hk
    go_enter Try.func18, Try.ntmps18
    go_wp2_with (go_at_call 30; refine (stable_none _ _).mono ?_; rintro e w' ⟨rfl, hw⟩)
    go_end0
    exact ⟨rfl, [], H.out, HS.out, Below.refl _ _⟩
  · obtain ⟨vs, rfl⟩ := toEn_of es fun t ht => ⟨(hk t ht).1, (hk t ht).2, by obtain ⟨A, c, hA⟩ := own_slice (h.cl t ht).1; exact ⟨A, _, c, hA⟩⟩
    have hgs : g < w.heap.size := (h.own.lt g rfl).2
    have hH : HoldsK encV 3 w g 0 vs.toArray := fun j hj => by
      have hj' : j < vs.length * 3 := by simpa [size_flatK] using hj
      refine ⟨?_, h.own.frozenAt _⟩
      rw [Nat.zero_add, h.own.cellAt j (by simp; omega), ← flatK_cells]
      simp [size_flatK, hj']
    have hcon := stable_small g cap vs.toArray w hH hgs (by simpa using hn)
    have Hfin : Hid (∀ d' w', Stab vs.toArray d' → SWK encV 3 w g 0 d' w' → ∃ es', SAll w' base 51 (.slice (some ⟨g, 0, none⟩) (vs.map toEn).length cap) es' ∧ StabE (vs.map toEn) es' ∧ Below base w w') := by
      rintro d' w' hS ⟨m, os, rfl⟩
      have hd : d'.size = vs.length := by have := hS.1.1; simpa using this
      have h1 : (Sort.ahead w m).ownsRow base 51 3 (.slice (some ⟨g, 0, none⟩) (vs.map toEn).length cap) (vs.map toEn).length (cellsE (vs.map toEn)) := h.own
      obtain ⟨h2, h3⟩ := own_putRow h1 (flatK encV 3 d') (by rw [size_flatK, cellsE_len, hd]; simp)
      have h4 : (flatK encV 3 d').toList = cellsE (d'.toList.map toEn) := by have := flatK_cells d'.toList; simpa using this
      rw [h4] at h2
      have hst := hS.toE
      refine ⟨d'.toList.map toEn, ⟨?_, fun t ht => ?_, ?_⟩, hst, ?_⟩
      · rw [show (d'.toList.map toEn).length = (vs.map toEn).length by simp [hd]]
        exact h2.kept (grown_grow _ os) (.inr (by simp [Value.ownBlock]))
      · have h5 := h.cl t (stab_mem hst ht)
        have h6 : (Sort.ahead w m).ownsRow base 3 1 t.2.2.1 t.2.2.2.length (ints t.2.2.2) := h5.1
        have hne := own_ne h6 h1 (by decide)
        refine ⟨(h6.kept h3 hne).kept (grown_grow _ os) ?_, fun g' hg' => Nat.lt_of_lt_of_le (h5.2 g' hg') (Nat.le_trans h3.size (grown_grow _ os).size)⟩
        cases hv : t.2.2.1.ownBlock with
        | none => exact .inl rfl
        | some _ => exact .inr (by simp)
      · exact Nat.le_trans h.hB (Nat.le_trans h3.size (grown_grow _ os).size)
      · have hsz : w.heap.size ≤ (sortWorldK encV 3 w g 0 m d' os).heap.size := Nat.le_trans h3.size (grown_grow _ os).size
        exact ⟨rfl, rfl, rfl, hsz, fun k hk => ((grown_grow _ os).block k (Nat.lt_of_lt_of_le (Nat.lt_of_lt_of_le hk h.hB) h3.size) (by simp)).trans (h3.block k (Nat.lt_of_lt_of_le hk h.hB) (by simp; omega))⟩
    simp only [List.size_toArray] at hcon
    rw [show vs.length = (vs.map toEn).length by simp] at hcon
    generalize (vs.map toEn).length = n at hcon Hfin
    have Hcon := hid hcon
    clear hcon hH h hrest hg hk hb
    go_enter Try.func18, Try.ntmps18
    go_wp2_with (go_at_call 30; refine Hcon.out.mono ?_; rintro e w' ⟨rfl, d', hS, hW⟩; have HS := hid hS; have HW := hid hW; clear hS hW)
    go_end0
    exact ⟨rfl, Hfin.out d' _ HS.out HW.out⟩
end Go.Proofs.Ytaoddenadfmdbaa
