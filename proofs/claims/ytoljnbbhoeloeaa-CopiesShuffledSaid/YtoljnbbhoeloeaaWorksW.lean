/- WALK: works. -/
import Derived.Test.YtoljnbbhoeloeaaVarW
import Derived.Test.YtoljnbbhoeloeaaFish
namespace Go.Proofs.Ytoljnbbhoeloeaa
open Go.RowKit
theorem stab_unique : ∀ (L L' : List Va), L.Pairwise (fun x y => x.1 ≤ y.1) → L'.Pairwise (fun x y => x.1 ≤ y.1) → (∀ x : Int, L'.filter (fun t => decide (t.1 = x)) = L.filter (fun t => decide (t.1 = x))) → L' = L
  | [], [], _, _, _ => rfl
  | [], t :: r, _, _, h => by have := h t.1; simp at this
  | t :: r, [], _, _, h => by have := h t.1; simp at this
  | t :: r, u :: s, h1, h2, h => by
    have hle : u.1 ≤ t.1 := by
      have : t ∈ (u :: s).filter (fun x => decide (x.1 = t.1)) := by rw [h]; simp
      rcases List.mem_cons.1 (List.mem_filter.1 this).1 with e | e
      · rw [e]; exact Int.le_refl _
      · exact List.rel_of_pairwise_cons h2 e
    have hge : t.1 ≤ u.1 := by
      have : u ∈ (t :: r).filter (fun x => decide (x.1 = u.1)) := by rw [← h]; simp
      rcases List.mem_cons.1 (List.mem_filter.1 this).1 with e | e
      · rw [e]; exact Int.le_refl _
      · exact List.rel_of_pairwise_cons h1 e
    have hk : u.1 = t.1 := by omega
    have h3 := h t.1
    rw [List.filter_cons_of_pos (by simpa using hk), List.filter_cons_of_pos (by simp)] at h3
    injection h3 with h4 h5
    subst h4
    rw [stab_unique r s h1.of_cons h2.of_cons fun x => ?_]
    by_cases hx : u.1 = x
    · subst hx; exact h5
    · have := h x
      rwa [List.filter_cons_of_neg (by simpa using hx), List.filter_cons_of_neg (by simpa using hx)] at this
theorem StabL.eq {L L' : List Va} (h : StabL L L') (hs : L.Pairwise (fun x y => x.1 ≤ y.1)) : L' = L := stab_unique L L' hs h.2.2 h.2.1
theorem works_raw : raw [1, 2, 3, 4] [[1, 3, 4], [1, 2, 5, 5, 4]] 2 = [(1, 0, []), (2, 1, [5, 5])] := by decide +kernel
theorem works_err : vErr [1, 2, 3, 4] [[1, 3, 4], [1, 2, 5, 5, 4]] = 0 := by decide
theorem works_fish : fRes 5 0 0 5 = .tuple #[.agg #[.int .i64 1, .int .i64 126], .int .i64 0] := by
  have h1 : fNumI 5 0 0 5 = 1 := by decide +kernel
  have h2 : fDenI 5 0 0 5 = 126 := by decide +kernel
  have h3 : fErr 5 0 0 5 = 0 := by decide
  unfold fRes
  rw [h1, h2, h3]
theorem rd_new {w w' : World} {T : TypeId} {g : Nat} {l : List Int} (h : w.heap[g]? = some (.cells (ints l).toArray T (0, 0))) (hb : Below w.heap.size w w') : Rd w' w'.heap.size (some ⟨g, 0, none⟩) l := by
  have hg : g < w.heap.size := by
    rcases Nat.lt_or_ge g w.heap.size with h1 | h1
    · exact h1
    · rw [Array.getElem?_eq_none h1] at h; cases h
  refine ⟨by simp, fun _ => ⟨_, rfl, Nat.lt_of_lt_of_le hg hb.size, fun j u hu => ?_⟩⟩
  rw [Addr.add_lit, Nat.zero_add]
  refine (hb.cell (p := ⟨g, j, none⟩) hg).trans ?_
  simp [World.cell?, h, hu]
theorem two_of {es : List En} {x y : Va} (h : es.map dec = [x, y]) : ∃ t0 t1, es = [t0, t1] := by
  match es with
  | [t0, t1] => exact ⟨t0, t1, rfl⟩
  | [] => simp at h
  | [_] => simp at h
  | _ :: _ :: _ :: _ => simp at h
theorem heap_new {w : World} {o : Obj} {n : Nat} (hn : n = w.heap.size) : (w.alloc o).heap[n]? = some o := by subst hn; exact heap_alloc_new w o
theorem heap_at {w : World} {o x : Obj} {k : Nat} (h : w.heap[k]? = some x) : (w.alloc o).heap[k]? = some x := by
  have hk : k < w.heap.size := by
    rcases Nat.lt_or_ge k w.heap.size with h1 | h1
    · exact h1
    · rw [Array.getElem?_eq_none h1] at h; cases h
  exact (Below.heap_alloc _ _ _ hk).trans h
set_option maxRecDepth 100000 in
set_option maxHeartbeats 1000000 in
theorem works_any (w : World) : Calls Try.prog 20 #[] w fun e w' => e = .returned (.bool true) ∧ Below w.heap.size w w' := by
  have hF := fun w' => fisher_call 5 0 0 5 w'
  rw [works_fish] at hF
  have HF := hid hF; clear hF
  go_enter Try.func20, Try.ntmps20
  go_wp2_with fail
  refine (HF.out _).mono ?_
  rintro e w1 ⟨rfl, hb1⟩
  have Hb1 := hid hb1; clear hb1
  go_wp2_with fail
  obtain ⟨W, hW⟩ : ∃ W, W = (((((w1.alloc (.cells #[.int .i64 1, .int .i64 126] 40)).alloc (.cells #[.int .i64 1, .int .i64 2, .int .i64 3, .int .i64 4] 3)).alloc (.cells #[.int .i64 1, .int .i64 3, .int .i64 4] 3)).alloc (.cells #[.int .i64 1, .int .i64 2, .int .i64 5, .int .i64 5, .int .i64 4] 3)).alloc (.cells #[.slice (some ⟨w1.heap.size + 1 + 1, 0, none⟩) 3 3, .slice (some ⟨w1.heap.size + 1 + 1 + 1, 0, none⟩) 5 5] 22)) := ⟨_, rfl⟩
  rw [← hW]
  have f0 : W.heap[w1.heap.size]? = some (.cells #[.int .i64 1, .int .i64 126] 40 (0, 0)) := by rw [hW]; exact heap_at (heap_at (heap_at (heap_at (heap_new rfl))))
  have f1 : W.heap[w1.heap.size + 1]? = some (.cells (ints [1, 2, 3, 4]).toArray 3 (0, 0)) := by rw [hW]; exact heap_at (heap_at (heap_at (heap_new (by simp))))
  have f2 : W.heap[w1.heap.size + 1 + 1]? = some (.cells (ints [1, 3, 4]).toArray 3 (0, 0)) := by rw [hW]; exact heap_at (heap_at (heap_new (by simp)))
  have f3 : W.heap[w1.heap.size + 1 + 1 + 1]? = some (.cells (ints [1, 2, 5, 5, 4]).toArray 3 (0, 0)) := by rw [hW]; exact heap_at (heap_new (by simp))
  have f4 : W.heap[w1.heap.size + 1 + 1 + 1 + 1]? = some (.cells #[.slice (some ⟨w1.heap.size + 1 + 1, 0, none⟩) 3 3, .slice (some ⟨w1.heap.size + 1 + 1 + 1, 0, none⟩) 5 5] 22 (0, 0)) := by rw [hW]; exact heap_new (by simp)
  have hsz : W.heap.size = w1.heap.size + 5 := by rw [hW]; simp
  have hbW : Below w1.heap.size w1 W := by
    rw [hW]
    exact (((((Below.refl _ _).alloc (Nat.le_refl _) _).alloc (by simp) _).alloc (by simp; omega) _).alloc (by simp; omega) _).alloc (by simp; omega) _
  clear hW
  have hbw := Hb1.out.trans (hbW.mono Hb1.out.size)
  have c0 : W.cell? ⟨w1.heap.size, 0, none⟩ = some (.int .i64 1) := by simp [World.cell?, f0]
  have c1 : W.cell? ⟨w1.heap.size, 1, none⟩ = some (.int .i64 126) := by simp [World.cell?, f0]
  have ra := rd_new f1 (Below.refl _ W)
  have ro : Lns W W.heap.size (some ⟨w1.heap.size + 1 + 1 + 1 + 1, 0, none⟩) [(some ⟨w1.heap.size + 1 + 1, 0, none⟩, 3, [1, 3, 4]), (some ⟨w1.heap.size + 1 + 1 + 1, 0, none⟩, 5, [1, 2, 5, 5, 4])] := by
    refine ⟨⟨rfl, fun _ => ⟨_, rfl, by simp [hsz], fun j u hu => ?_⟩⟩, fun t ht => ?_⟩
    · rw [Addr.add_lit, Nat.zero_add]
      simp only [vals, Ln.val, List.map_cons, List.map_nil, List.length_cons, List.length_nil, Nat.zero_add, Nat.reduceAdd] at hu
      simp only [World.cell?, f4]
      simpa using hu
    · simp only [List.mem_cons, List.not_mem_nil, or_false] at ht
      rcases ht with rfl | rfl
      · exact rd_new f2 (Below.refl _ W)
      · exact rd_new f3 (Below.refl _ W)
  have hcon := variants_any [1, 2, 3, 4] _ _ _ 4 2 (by simp) (by show (raw [1, 2, 3, 4] [[1, 3, 4], [1, 2, 5, 5, 4]] 2).length < 20; rw [works_raw]; decide) W ra ro
  have hc0 : w1.heap.size < W.heap.size := by omega
  have Hcon := hid hcon; have Hbw := hid hbw; have Hsz := hid hsz
  clear hcon ra ro f0 f1 f2 f3 f4 hbw hbW hsz Hb1 HF
  refine Hcon.out.mono ?_
  rintro e w2 ⟨v, es, rfl, hS, hst, _, hb2⟩
  rw [show vErr [1, 2, 3, 4] (sig [(some (⟨w1.heap.size + 1 + 1, 0, none⟩ : Addr), 3, [1, 3, 4]), (some (⟨w1.heap.size + 1 + 1 + 1, 0, none⟩ : Addr), 5, [1, 2, 5, 5, 4])]) = 0 from works_err] at hst ⊢
  have hes : es.map dec = [(1, 0, []), (2, 1, [5, 5])] := by
    have h1 : StabL (raw [1, 2, 3, 4] [[1, 3, 4], [1, 2, 5, 5, 4]] 2) (es.map dec) := hst rfl
    rw [works_raw] at h1
    exact h1.eq (by simp)
  clear hst Hcon
  obtain ⟨t0, ⟨f, c, u, sg⟩, rfl⟩ : ∃ t0 t1, es = [t0, t1] := two_of hes
  simp only [dec, List.map_cons, List.map_nil, List.cons.injEq, Prod.mk.injEq, and_true] at hes
  obtain ⟨_, rfl, rfl, rfl⟩ := hes
  obtain ⟨g, cg, rfl, hg1, hg2, d1, d2, d3⟩ := hS.at (k := 1) (by simp)
  have hcl := (hS.cl _ (List.mem_cons_of_mem _ (List.mem_singleton.2 rfl))).1
  obtain ⟨A4, c4, hu⟩ := own_slice hcl
  simp only at hu
  subst hu
  simp only [List.getElem_cons_succ, List.getElem_cons_zero, Nat.one_mul, List.length_cons, List.length_nil, Nat.zero_add, Nat.reduceAdd] at d1 d2 d3 hcl ⊢
  have c0' := (hb2.cell (p := ⟨w1.heap.size, 0, none⟩) hc0).trans c0
  have c1' := (hb2.cell (p := ⟨w1.heap.size, 1, none⟩) hc0).trans c1
  have hrd : Rd w2 w2.heap.size A4 [5, 5] := Reads.of_own hcl
  have hbb := Hbw.out.trans (hb2.mono Hbw.out.size)
  have Hrd := hid hrd; have Hbb := hid hbb
  clear hrd hbb hS hb2 hcl c0 c1 hc0 Hbw Hsz
  go_wp2_with fail
  refine (same_any [5, 5] [5, 5] A4 (some ⟨w2.heap.size, 0, none⟩) c4 2 (by simp) _ (w2.heap.size + 1) ((Hrd.out.below ((Below.refl _ _).alloc (Nat.le_refl _) _)).more (by omega)) ((rd_new (heap_new rfl) (Below.refl _ _)).more (by simp))).mono ?_
  rintro e w3 ⟨rfl, q, rfl⟩
  rw [decide_eq_true (rfl : ([5, 5] : List Int) = [5, 5])]
  go_wp2_with fail
  go_ret
  exact ⟨rfl, Hbb.out.trans (below_drewN ((Below.refl _ _).alloc Hbb.out.size _) _)⟩
end Go.Proofs.Ytoljnbbhoeloeaa
