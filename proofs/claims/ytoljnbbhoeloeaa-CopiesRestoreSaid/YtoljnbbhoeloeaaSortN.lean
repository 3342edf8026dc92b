/- WALK: the sort of the variants, at a slice of the call's own, of any number. -/
import Derived.Test.YtoljnbbhoeloeaaStabW
import Derived.Test.YtoljnbbhoeloeaaSortW
namespace Go.Proofs.Ytoljnbbhoeloeaa
open Go.RowKit Go.Shelf Go.Lib Go.Sort
set_option maxRecDepth 100000 in
set_option maxHeartbeats 1000000 in
theorem sort_full (base : Nat) (v : Value) (es : List En) (w : World) (h : SAll w base 32 v es) (hk : ∀ t ∈ es, 0 ≤ t.1 ∧ t.1 ≤ 1000) (hn : es.length < 1000000) :
    Calls Try.prog 49 #[v, .func (.func 50) #[] #[]] w fun e w' => e = .returned (.tuple #[]) ∧ ∃ es', SAll w' base 32 v es' ∧ StabE es es' ∧ Below base w w' := by
  rcases h.own.2 with ⟨rfl, h0⟩ | ⟨g, cap, cur, rfl, hb, hg, hrest⟩
  · have hes : es = [] := List.eq_nil_of_length_eq_zero h0
    subst hes
    have hS : StabE [] [] := ⟨rfl, fun _ => rfl, List.Pairwise.nil⟩
    have HS := hid hS
    have H := hid h
    clear hS h hk
    go_enter Try.func49, Try.ntmps49
    go_wp2_with (go_at_call 76; refine (stable_none _ _).mono ?_; rintro e w' ⟨rfl, hw⟩)
    go_end0
    exact ⟨rfl, [], H.out, HS.out, Below.refl _ _⟩
  · obtain ⟨vs, rfl⟩ := toEn_of es fun t ht => ⟨(hk t ht).1, (hk t ht).2, by obtain ⟨A, c, hA⟩ := own_slice (h.cl t ht).1; exact ⟨A, _, c, hA⟩⟩
    have hgs : g < w.heap.size := (h.own.lt g rfl).2
    have hH : HoldsK encV 3 w g 0 vs.toArray := fun j hj => by
      have hj' : j < vs.length * 3 := by simpa [size_flatK] using hj
      refine ⟨?_, h.own.frozenAt _⟩
      rw [Nat.zero_add, h.own.cellAt j (by simp; omega), ← flatK_cells]
      simp [size_flatK, hj']
    have hcon := stable_full g 0 cap vs.toArray w hH hgs (by simp at hn ⊢; omega)
    have Hfin : Hid (∀ d' w', Stab vs.toArray d' → SWK encV 3 w g 0 d' w' → ∃ es', SAll w' base 32 (.slice (some ⟨g, 0, none⟩) (vs.map toEn).length cap) es' ∧ StabE (vs.map toEn) es' ∧ Below base w w') := by
      rintro d' w' hS ⟨m, os, rfl⟩
      have hd : d'.size = vs.length := by have := hS.1.1; simpa using this
      have h1 : (Sort.ahead w m).ownsRow base 32 3 (.slice (some ⟨g, 0, none⟩) (vs.map toEn).length cap) (vs.map toEn).length (cellsE (vs.map toEn)) := h.own
      obtain ⟨h2, h3⟩ := own_putRow h1 (flatK encV 3 d') (by rw [size_flatK, cellsE_len, hd]; simp)
      have h4 : (flatK encV 3 d').toList = cellsE (d'.toList.map toEn) := by have := flatK_cells d'.toList; simpa using this
      rw [h4] at h2
      have hst := hS.toE
      refine ⟨d'.toList.map toEn, ⟨?_, fun t ht => ?_, ?_⟩, hst, ?_⟩
      · rw [show (d'.toList.map toEn).length = (vs.map toEn).length by simp [hd]]
        exact h2.kept (grown_grow _ os) (.inr (by simp [Value.ownBlock]))
      · have h5 := h.cl t (stab_mem hst ht)
        have h6 : (Sort.ahead w m).ownsRow base 3 1 t.2.2.1 t.2.2.2.length (ints t.2.2.2) := h5.1
        have hne := own_ne h6 h1 (by decide)
        refine ⟨(h6.kept h3 hne).kept (grown_grow _ os) ?_, fun g' hg' => Nat.lt_of_lt_of_le (h5.2 g' hg') (Nat.le_trans h3.size (grown_grow _ os).size)⟩
        cases hv : t.2.2.1.ownBlock with
        | none => exact .inl rfl
        | some _ => exact .inr (by simp)
      · exact Nat.le_trans h.hB (Nat.le_trans h3.size (grown_grow _ os).size)
      · have hsz : w.heap.size ≤ (sortWorldK encV 3 w g 0 m d' os).heap.size := Nat.le_trans h3.size (grown_grow _ os).size
        exact ⟨rfl, rfl, rfl, hsz, fun k hk => ((grown_grow _ os).block k (Nat.lt_of_lt_of_le (Nat.lt_of_lt_of_le hk h.hB) h3.size) (by simp)).trans (h3.block k (Nat.lt_of_lt_of_le hk h.hB) (by simp; omega))⟩
    simp only [List.size_toArray] at hcon
    rw [show vs.length = (vs.map toEn).length by simp] at hcon
    generalize (vs.map toEn).length = n at hcon Hfin
    have Hcon := hid hcon
    clear hcon hH h hrest hg hk hb
    go_enter Try.func49, Try.ntmps49
    go_wp2_with (go_at_call 76; refine Hcon.out.mono ?_; rintro e w' ⟨rfl, d', hS, hW⟩; have HS := hid hS; have HW := hid hW; clear hS hW)
    go_end0
    exact ⟨rfl, Hfin.out d' _ HS.out HW.out⟩
end Go.Proofs.Ytoljnbbhoeloeaa
