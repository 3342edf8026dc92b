/- WALK: the library's Join. -/
import Derived.Test.YtoljnbbhoeloeaaRowsI
namespace Go.Proofs.Ytoljnbbhoeloeaa
open Go.RowKit Go.Shelf
attribute [local go_sem] Oper.semAt_some
def joinErr (bs : List Bk) (k : Int) : Int := if blksErr bs ≠ 0 then blksErr bs else if ¬ (1 ≤ k ∧ k ≤ 64) then 1 else if (allRows bs).isEmpty then 82 else 0
def joinRows (bs : List Bk) (k : Int) : List (List Nat) := if joinErr bs k = 0 then (allRows bs).take k.toNat else []
theorem join_e1 {bs : List Bk} {k : Int} (h : blksErr bs ≠ 0) : joinErr bs k = blksErr bs ∧ joinRows bs k = [] := by
  have : joinErr bs k = blksErr bs := if_pos h
  exact ⟨this, if_neg (by rw [this]; exact h)⟩
theorem join_e2 {bs : List Bk} {k : Int} (h : blksErr bs = 0) (h2 : ¬ (1 ≤ k ∧ k ≤ 64)) : joinErr bs k = 1 ∧ joinRows bs k = [] := by
  have : joinErr bs k = 1 := by rw [joinErr, if_neg (by simpa using h), if_pos h2]
  exact ⟨this, if_neg (by rw [this]; decide)⟩
theorem join_e3 {bs : List Bk} {k : Int} (h : blksErr bs = 0) (h2 : 1 ≤ k ∧ k ≤ 64) (h3 : allRows bs = []) : joinErr bs k = 82 ∧ joinRows bs k = [] := by
  have : joinErr bs k = 82 := by rw [joinErr, if_neg (by simpa using h), if_neg (by simpa using h2), if_pos (by simp [h3])]
  exact ⟨this, if_neg (by rw [this]; decide)⟩
theorem join_e4 {bs : List Bk} {k : Int} (h : blksErr bs = 0) (h2 : 1 ≤ k ∧ k ≤ 64) (h3 : allRows bs ≠ []) : joinErr bs k = 0 ∧ joinRows bs k = (allRows bs).take k.toNat := by
  have : joinErr bs k = 0 := by rw [joinErr, if_neg (by simpa using h), if_neg (by simpa using h2), if_neg (by simpa using h3)]
  exact ⟨this, if_pos this⟩
/-- What Join answers. -/
def JoinIs (bs : List Bk) (k : Int) (w : World) (e : Ending) (w' : World) : Prop :=
  ∃ (A' : Option Addr) (c' : Nat) (es : List Ln), e = .returned (.tuple #[.slice A' es.length c', .int .i64 (joinErr bs k)]) ∧ Lns w' w'.heap.size A' es ∧ sig es = (joinRows bs k).map nz ∧ Below w.heap.size w w'
/-- .. of the library's: and the rows' capacities hold them. -/
def JoinIsC (bs : List Bk) (k : Int) (w : World) (e : Ending) (w' : World) : Prop :=
  ∃ (A' : Option Addr) (c' : Nat) (es : List Ln), e = .returned (.tuple #[.slice A' es.length c', .int .i64 (joinErr bs k)]) ∧ Lns w' w'.heap.size A' es ∧ sig es = (joinRows bs k).map nz ∧ (∀ t ∈ es, t.2.2.length ≤ t.2.1) ∧ Below w.heap.size w w'
theorem lns_nil (w : World) (B : Nat) : Lns w B none [] := ⟨⟨rfl, fun h => by simp at h⟩, fun t ht => by cases ht⟩
theorem join_none {bs : List Bk} {k : Int} {w w' : World} {e : Int} (h : joinErr bs k = e ∧ joinRows bs k = []) (hb : Below w.heap.size w w') : JoinIs bs k w (.returned (.tuple #[.slice none 0 0, .int .i64 e])) w' :=
  ⟨none, 0, [], by rw [h.1]; rfl, lns_nil _ _, by rw [h.2]; rfl, hb⟩
theorem joinC_none {bs : List Bk} {k : Int} {w w' : World} {e : Int} (h : joinErr bs k = e ∧ joinRows bs k = []) (hb : Below w.heap.size w w') : JoinIsC bs k w (.returned (.tuple #[.slice none 0 0, .int .i64 e])) w' :=
  ⟨none, 0, [], by rw [h.1]; rfl, lns_nil _ _, by rw [h.2]; rfl, (fun t ht => by cases ht), hb⟩
theorem ri_same {w w' : World} {A : Option Addr} {l : List Int} (h : Ri w A l) (hs : w.heap.size ≤ w'.heap.size) (hk : ∀ ad, A = some ad → w'.heap[ad.block]? = w.heap[ad.block]?) : Ri w' A l := by
  refine ⟨⟨h.rd.1, fun hl => ?_⟩, fun ad had => ?_⟩
  · obtain ⟨ad, had, hb, hc⟩ := h.rd.2 hl
    refine ⟨ad, had, Nat.lt_of_lt_of_le hb hs, fun j u hu => ?_⟩
    have hb2 : (ad.add j).block = ad.block := block_of_add _ _
    exact (World.cell?_of_block (by rw [hb2]; exact hk ad had)).trans (hc j u hu)
  · obtain ⟨cs, fz, hty⟩ := h.ty ad had
    exact ⟨cs, fz, by rw [hk ad had]; exact hty⟩
/-- What Join's loop keeps: the limit's box, the list's cell, the list, its rows. -/
structure JM (w : World) (kk : Nat) (M : Nat) (pre : List Ln) (v : Value) (W : World) : Prop where
  k_ : W.heap[w.heap.size]? = some (.cells #[.int .i64 kk] 3 (0, 0))
  o_ : W.heap[w.heap.size + 1]? = some (.cells #[v] 23 (0, 0))
  own : W.ownsRow M 22 1 v pre.length (vals pre)
  rd : ∀ t ∈ pre, Rc W t
  bel : Below w.heap.size w W
theorem JM.turn {w W W' : World} {kk B : Nat} {s : List Ln} {v : Value} {row : Option Nat} (h : JM w kk (B + 3) s v W) (hB : w.heap.size + 3 < B) (hg : W.grownBy W' row)
    (hr : ∀ r, row = some r → MayW B lblk s W r ∨ (B ≤ r + 2 ∧ ∃ o : Obj, W.heap[r]? = some o ∧ o.isCells = false)) : JM w kk (B + 3) s v W' := by
  have hz := h.bel.size
  refine ⟨caller_keeps (by omega) h.k_ hg hr, caller_keeps (by omega) h.o_ hg hr, ?_, fun t ht => ?_, caller_below (by omega) hz h.bel hg hr⟩
  · obtain ⟨h1, h2⟩ := h.own
    refine ⟨h1, ?_⟩
    rcases h2 with h2 | ⟨g, cap, cur, hv, hgb, hh, rest⟩
    · exact .inl h2
    · refine .inr ⟨g, cap, cur, hv, hgb, (hg.block g (lt_of_block hh) fun e => ?_).trans hh, rest⟩
      rcases hr g e.symm with h3 | ⟨_, o, h4, h5⟩
      · rcases h3.2 with ⟨h6, _⟩ | ⟨_, cs, fz, h7⟩
        · omega
        · rw [hh] at h7
          injection h7 with h7
          injection h7 with _ h7 _
          exact absurd h7 (by decide)
      · rw [hh] at h4
        injection h4 with h4
        rw [← h4] at h5
        cases h5
  · refine ⟨ri_same (h.rd t ht).1 hg.size fun ad had => ?_, (h.rd t ht).2⟩
    obtain ⟨cs, fz, hty⟩ := (h.rd t ht).1.ty ad had
    refine hg.block _ (lt_of_block hty) fun e => ?_
    rcases hr _ e.symm with h3 | ⟨_, o, h4, h5⟩
    · rcases h3.2 with ⟨_, cs2, fz2, h6⟩ | ⟨h7, _⟩
      · rw [hty] at h6
        injection h6 with h6
        injection h6 with _ h6 _
        exact absurd h6 (by decide)
      · exact h7 t ht (by simp [lblk, had])
    · rw [hty] at h4
      injection h4 with h4
      rw [← h4] at h5
      cases h5
/-- The step of a round: the row is put into a cell, appended to the list, and the list's cell is stored. -/
theorem JM.step {w W W6 : World} {kk B Bb : Nat} {pre : List Ln} {x : Ln} {v v' : Value} (h : JM w kk (B + 3) pre v W) (hB : w.heap.size + 3 < B) (hBb : w.heap.size + 1 < Bb) (hBb2 : Bb < B) (hz : B + 3 ≤ W.heap.size) (hx : Rc W x)
    (hown : W6.ownsRow (B + 3) 22 1 v' (pre.length + 1) (vals pre ++ [x.val])) (hg : (W.alloc (.cells #[x.val] 22)).grownBy W6 v.ownBlock) :
    KeepsOthers W (W6.setCell ⟨w.heap.size + 1, 0, none⟩ v') ∧ KeptC w.heap.size Bb B W (W6.setCell ⟨w.heap.size + 1, 0, none⟩ v') ∧ JM w kk (B + 3) (pre ++ [x]) v' (W6.setCell ⟨w.heap.size + 1, 0, none⟩ v') := by
  have hoa := h.own.alloc (.cells #[x.val] 22)
  have hlt := hoa.lt
  have hsa : (W.alloc (.cells #[x.val] 22)).heap.size = W.heap.size + 1 := by simp
  have hs6 := hg.size
  have hwz := h.bel.size
  -- a block of the old world that is no row of the list, and not the list's cell
  have hkeep : ∀ (k : Nat) (o : Obj), k ≠ w.heap.size + 1 → (k < B + 3 ∨ ∃ (cs : Array Value) (fz : Nat × Nat), o = Obj.cells cs 3 fz) → W.heap[k]? = some o → (W6.setCell ⟨w.heap.size + 1, 0, none⟩ v').heap[k]? = some o := fun k o h1 h2 h3 => by
    have hk := lt_of_block h3
    have ha : (W.alloc (.cells #[x.val] 22)).heap[k]? = some o := (Below.heap_alloc _ _ _ hk).trans h3
    rw [Below.heap_setCell _ _ _ _ h1, hg.block k (by omega) fun e => ?_]
    · exact ha
    · rcases h2 with h2 | ⟨cs, fz, rfl⟩
      · have := (hlt k e.symm).1; omega
      · rcases hoa.2 with ⟨h4, _⟩ | ⟨g, cap, cur, hv, _, hh, _⟩
        · rw [h4] at e; cases e
        · rw [hv] at e
          injection e with e
          rw [← show k = g from e] at hh
          rw [ha] at hh
          injection hh with hh
          injection hh with _ hh _
          exact absurd hh (by decide)
  have hbel : Below w.heap.size W (W6.setCell ⟨w.heap.size + 1, 0, none⟩ v') := by
    have h1 : Below w.heap.size W (W.alloc (.cells #[x.val] 22)) := (Below.refl _ _).alloc hwz _
    exact (below_app h1 hoa hg (by omega) (by omega)).setCell (by simp) _
  have hsz : W.heap.size ≤ (W6.setCell ⟨w.heap.size + 1, 0, none⟩ v').heap.size := hbel.size
  refine ⟨?_, ⟨hbel, fun k o hk ho => hkeep k o (by omega) (hk.elim (fun h => .inl (by omega)) fun h => h.2.elim (fun h => .inl (by omega)) .inr) ho⟩, ?_⟩
  · refine ((KeepsOthers.alloc W _).trans (KeepsOthers.of_grownBy hg fun j o hj ho => ?_)).trans (KeepsOthers.setCell _ _ _)
    rcases hoa.2 with ⟨h4, _⟩ | ⟨g, cap, cur, hv, _, hh, _⟩
    · rw [h4] at hj; cases hj
    · rw [hv] at hj
      injection hj with hj
      rw [← show g = j from hj, hh] at ho
      injection ho with ho
      rw [← ho]; rfl
  · refine ⟨hkeep _ _ (by omega) (.inl (by omega)) h.k_, one_setCell (v := v) ?_, ?_, fun t ht => ?_, h.bel.trans hbel⟩
    · rw [hg.block _ (by omega) fun e => by have := (hlt _ e.symm).1; omega]
      exact (Below.heap_alloc _ _ _ (by omega)).trans h.o_
    · rw [List.length_append]
      have := ownsRow_setCell_other hown (a := ⟨w.heap.size + 1, 0, none⟩) (fun he => by have := (hown.lt _ he).1; simp at this; omega) v'
      unfold vals at this ⊢
      rw [List.map_append]
      exact this
    · have ht2 : Rc W t := by
        rcases List.mem_append.1 ht with ht | ht
        · exact h.rd t ht
        · rw [List.mem_singleton.1 ht]; exact hx
      refine ⟨ri_same ht2.1 hsz fun ad had => ?_, ht2.2⟩
      obtain ⟨cs, fz, hty⟩ := ht2.1.ty ad had
      rw [hty]
      refine hkeep _ _ (fun e => ?_) (.inr ⟨cs, fz, rfl⟩) hty
      rw [e, h.o_] at hty
      injection hty with hty
      injection hty with _ hty _
      exact absurd hty (by decide)
theorem JM.lns {w W : World} {kk M : Nat} {pre : List Ln} {A : Option Addr} {c : Nat} (h : JM w kk M pre (.slice A pre.length c) W) : Lns W W.heap.size A pre :=
  ⟨Reads.of_own h.own, fun t ht => (h.rd t ht).1.rd⟩
theorem JM.set {w W : World} {kk B : Nat} {s : List Ln} {v : Value} (h : JM w kk (B + 3) s v W) (hB : w.heap.size + 3 < B) : JM w kk (B + 3) s v (W.setCell ⟨w.heap.size + 1, 0, none⟩ v) := by
  have hb : ∀ (k : Nat) (o : Obj), k ≠ w.heap.size + 1 → W.heap[k]? = some o → (W.setCell ⟨w.heap.size + 1, 0, none⟩ v).heap[k]? = some o := fun k o h1 h2 => by
    rw [Below.heap_setCell _ _ _ _ h1]
    exact h2
  refine ⟨hb _ _ (by omega) h.k_, one_setCell h.o_, ownsRow_setCell_other h.own (a := ⟨w.heap.size + 1, 0, none⟩) (fun he => by have := (h.own.lt _ he).1; simp at this; omega) v, fun t ht => ?_, h.bel.setCell (by simp) _⟩
  refine ⟨ri_same (h.rd t ht).1 (by simp) fun ad had => ?_, (h.rd t ht).2⟩
  obtain ⟨cs, fz, hty⟩ := (h.rd t ht).1.ty ad had
  rw [hty]
  refine hb _ _ (fun e => ?_) hty
  rw [e, h.o_] at hty
  injection hty with hty
  injection hty with _ hty _
  exact absurd hty (by decide)
theorem join_fin {bs : List Bk} {w W : World} {kk B D : Nat} {s : List Ln} {A : Option Addr} {c : Nat} (hJ : allRows bs ≠ [] → joinErr bs kk = 0 ∧ joinRows bs kk = (allRows bs).take (kk : Int).toNat) (hs : sig s = ((allRows bs).take kk).map nz) (hne : s ≠ [])
    (h : JM w kk (B + 3) s (.slice A s.length c) W) (hB : w.heap.size + 3 < B) (hD : B ≤ D + 2) (hK : W.heap[D]? = some (.deferred (some []))) :
    JoinIsC bs kk w (.returned (.tuple #[.slice A s.length c, .int .i64 0])) ((W.setCell ⟨w.heap.size + 1, 0, none⟩ (.slice A s.length c)).putObj D (.deferred none)) := by
  have hne2 : allRows bs ≠ [] := fun e => by
    rw [e] at hs
    simp [sig] at hs
    exact hne hs
  obtain ⟨h1, h2⟩ := hJ hne2
  have hm := (h.set hB).turn hB (grownBy_putObj' _ D (.deferred none)) (fun r e => by
    cases e
    exact .inr ⟨hD, _, by rw [Below.heap_setCell _ _ _ _ (show D ≠ w.heap.size + 1 by omega)]; exact hK, rfl⟩)
  exact ⟨A, c, s, by rw [h1], hm.lns, by rw [h2, hs]; simp, fun t ht => (hm.rd t ht).2, hm.bel⟩
set_option maxRecDepth 100000 in
set_option maxHeartbeats 2000000 in
theorem joinC_any (bs : List Bk) (k : Int) (A : Option Addr) (c : Nat) (w : World) (r : Bks w w.heap.size A bs) :
    Calls Try.prog 40 #[.slice A bs.length c, .int .i64 k] w fun e w' => JoinIsC bs k w e w' := by
  have HC := hid (fun w3 (hb : Below w.heap.size w w3) => checkBlocks_any bs A c w3 ((r.below hb).more hb.size))
  refine (callsIn_wide (n := 8)).1 ?_
  have hdd : ∀ k : Nat, (Fence.wide.depth.isSome = true → 1 ≤ k) := fun k h => by cases h
  have hal : Below w.heap.size w ((w.alloc (.cells #[.int .i64 k] 3)).alloc (.cells #[.slice none 0 0] 23)) := ((Below.refl _ _).alloc (Nat.le_refl _) _).alloc (by simp) _
  have hnk : ((w.alloc (.cells #[.int .i64 k] 3)).alloc (.cells #[.slice none 0 0] 23)).heap[w.heap.size]? = some (.cells #[.int .i64 k] 3 (0, 0)) := (Below.heap_alloc _ _ _ (by simp)).trans (heap_alloc_new _ _)
  have hno : ((w.alloc (.cells #[.int .i64 k] 3)).alloc (.cells #[.slice none 0 0] 23)).heap[w.heap.size + 1]? = some (.cells #[.slice none 0 0] 23 (0, 0)) := by
    have := heap_alloc_new (w.alloc (.cells #[.int .i64 k] 3)) (.cells #[.slice none 0 0] 23)
    simpa using this
  by_cases h0 : blksErr bs = 0
  · have hn8 := (blks_ok h0).1
    by_cases hk : 1 ≤ k ∧ k ≤ 64
    · have hd : decide (1 ≤ k ∧ k ≤ 64) = true := decide_eq_true hk
      have hJ3 := hid (fun h3 => join_e3 h0 hk h3)
      have hJ4 := hid (fun h3 => join_e4 h0 hk h3)
      have HS := hid (fun w3 (hb : Below w.heap.size w w3) (n : Nat) => rows_seq bs h0 A c w.heap.size w3.heap.size (w3.alloc (.cells #[.slice A bs.length c] 68)) (r.below (hb.alloc hb.size _)) (heap_alloc_new _ _) (by have := hb.size; simp; omega) n)
      have HT := hid (fun w3 => rows_any bs A c w3)
      obtain ⟨kk, rfl⟩ : ∃ kk : Nat, k = kk := ⟨k.toNat, by omega⟩
      rw [h0] at HC
      generalize hN : bs.length = N at *
      have HN := hid hN
      clear r h0 hN
      refine callsIn_of_wp_marks Try.func40 rfl trivial ?_ rfl
      simp only [Try.ntmps40, List.size_toArray, List.length_cons, List.length_nil, Nat.reduceAdd, Nat.reduceSub, Array.replicate_succ, Array.replicate_zero, List.push_toArray, List.append_toArray, List.nil_append, List.cons_append]
      gi_wp2_with (first | ((first | refine ⟨trivial, hdd _, ?_⟩ | refine ⟨hdd _, ?_⟩ | refine ⟨trivial, ?_⟩ | skip); gi_at_call 32; refine (callsIn_wide.2 (HC.out _ hal)).mono ?_; rintro e w3 ⟨rfl, hb3⟩; have g3 := (hb3.block _ (by simp; omega)).trans hnk; have g4 := (hb3.block _ (by simp)).trans hno; have p3 := cell_of_one g3; have hB3 := hal.trans (hb3.mono hal.size)) | ((first | refine ⟨trivial, hdd _, ?_⟩ | refine ⟨hdd _, ?_⟩ | refine ⟨trivial, ?_⟩ | skip); gi_at_call 61; refine (callsIn_wide.2 (within_any _ _ _ _)).mono ?_; rintro e w' ⟨rfl, rfl⟩) | ((first | refine ⟨trivial, hdd _, ?_⟩ | refine ⟨hdd _, ?_⟩ | refine ⟨trivial, ?_⟩ | skip); gi_at_call 69; refine (callsIn_wide.2 (HT.out _)).mono ?_; rintro e w4 ⟨rfl, rfl⟩))
      have hz3 : w.heap.size + 1 < w3.heap.size := lt_of_block g4
      have hB4 : Below w.heap.size w (w3.alloc (.cells #[.slice A N c] 68)) := hB3.alloc hB3.size _
      have g5 : (w3.alloc (.cells #[.slice A N c] 68)).heap[w.heap.size]? = some (.cells #[.int .i64 kk] 3 (0, 0)) := (Below.heap_alloc _ _ _ (by omega)).trans g3
      have g6 : (w3.alloc (.cells #[.slice A N c] 68)).heap[w.heap.size + 1]? = some (.cells #[.slice none 0 0] 23 (0, 0)) := (Below.heap_alloc _ _ _ (by omega)).trans g4
      have hz4 : (w3.alloc (.cells #[.slice A N c] 68)).heap.size = w3.heap.size + 1 := by simp
      have hseq := HS.out w3 hB3 7
      clear HC HS HT hb3 g3 g4 hal hnk hno p3 hd
      obtain ⟨w4, hw4⟩ : ∃ w4, w4 = w3.alloc (.cells #[.slice A N c] 68) := ⟨_, rfl⟩
      rw [← hw4] at hB4 g5 g6 hz4 hseq ⊢
      clear hw4
      have hwB : w.heap.size + 3 < w4.heap.size + 2 := by omega
      have HZ4 := hid hz4
      refine range_cells rfl (by omega) (gf := 85) (lb := #[.pointer (some ⟨w3.heap.size, 0, none⟩)]) rfl trivial (enters_of Try.func85 (by kernel_rfl) rfl) hseq hB4.size (by omega) (Below.refl _ _) (fun _ => rfl)
        (fun x W l o o' h1 h2 h3 => ⟨ri_put o' h1 h2 h3.1, h3.2⟩)
        (fun pre W => pre.length < kk ∧ ∃ v, JM w kk (w4.heap.size + 2 + 3) pre v W) (fun cd pre W => cd = .exit 0 ∧ pre.length = kk ∧ ∃ v, JM w kk (w4.heap.size + 2 + 3) pre v W)
        (fun s W W' row hs hg hr => by obtain ⟨h1, v, h2⟩ := hs; exact ⟨h1, v, h2.turn hwB hg hr⟩) (fun cd s W W' row hs hg hr => by obtain ⟨h0, h1, v, h2⟩ := hs; exact ⟨h0, h1, v, h2.turn hwB hg hr⟩)
        ⟨by simp; omega, .slice none 0 0, ⟨g5, g6, World.ownsRow_nil _ _ _ _, fun t ht => by (cases ht), hB4⟩⟩
        (fun x => { tmps := #[.slice A N c, .int .i64 kk, undef, .pointer (some ⟨w.heap.size, 0, none⟩), .pointer (some ⟨w.heap.size + 1, 0, none⟩), .int .i64 0, .int .i64 0, x.val, .slice A N c, .int .i64 0, .int .i64 0, .bool false, undef, .int .i64 kk, .bool true, .bool false, .slice A N c, .func (.func 85) #[] #[.pointer (some ⟨w3.heap.size, 0, none⟩)], x.val, undef, undef, undef, undef, undef, undef, undef, undef, undef, undef, undef, undef], defers := [] }) ?assign ?body ?done ?stop
      case assign =>
        intro l x W K hK
        rw [show (#[18] : Array Tmp).zip #[x.val] = #[(18, x.val)] from by simp]
        gi_wp2
        exact hK
      case body =>
        rintro l pre ⟨xa, xc, xl⟩ W ⟨hlt, v, hm⟩ hlen hx hsz
        simp only [Ln.val]
        have p1 := cell_of_one hm.o_
        obtain ⟨A5, c5, rfl⟩ := own_slice hm.own
        have HST := hid (fun (W6 : World) (v' : Value) h1 h2 => hm.step (x := (xa, xc, xl)) (W6 := W6) (v' := v') (Bb := w3.heap.size) hwB (by omega) (by omega) hsz hx h1 h2)
        have hoa := hm.own.alloc (.cells #[(Value.slice xa xl.length xc)] 22)
        have HC1 := hid (fun (W6 : World) (h2 : (W.alloc (.cells #[(Value.slice xa xl.length xc)] 22)).grownBy W6 (Value.slice A5 pre.length c5).ownBlock) => show W6.heap[w.heap.size + 1]? = some (.cells #[.slice A5 pre.length c5] 23 (0, 0)) from
          (h2.block _ (by have := hm.bel.size; simp; omega) (fun e => by have := (hoa.lt _ e.symm).1; omega)).trans ((Below.heap_alloc _ _ _ (lt_of_block hm.o_)).trans hm.o_))
        have HM := hid hm
        clear hm
        by_cases heq : pre.length + 1 = kk
        · have hd1 : ((((pre.length + 1 : Nat)) : Int) == kk) = true := by simp; omega
          have hd2 : (((pre.length : Int) + 1) == kk) = true := by simp; omega
          have HEQ := hid heq
          clear heq hlt
          gi_wp2_with (first | (gi_at_builtin; refine app_in rfl (.tmp 19) (.tmp 21) Try.underlying23 Try.infoLine rfl (by decide) rfl (w4.heap.size + 2 + 3) _ _ _ rfl hoa ⟨W.heap.size, 0, none⟩ (Value.slice xa xl.length xc) rfl (cell_new1 _ _ _) rfl (by omega) (by simp; omega) ?_; intro v6 W6 hown6 hgrow6 hfr6; obtain ⟨g6, c6, rfl, hg6, hgl6⟩ := hown6.form (by omega); have HS3 := hid (HST.out _ _ hown6 hgrow6); have p2 := cell_of_one (HC1.out _ hgrow6); have z2 := free_of_one (HC1.out _ hgrow6); have p3 := cell_of_one HS3.out.2.2.o_; have p4 := cell_of_one HS3.out.2.2.k_; clear hown6 hgrow6 hfr6))
          obtain ⟨s1, s2, s3⟩ := HS3.out
          first | exact ⟨s1, rfl, by rw [List.length_append]; exact HEQ.out, _, s3⟩ | (rw [HZ4.out] at s2 s3; exact ⟨s1, rfl, by rw [List.length_append]; exact HEQ.out, _, s3⟩)
        · have hd1 : ((((pre.length + 1 : Nat)) : Int) == kk) = false := by rw [beq_eq_false_iff_ne]; omega
          have hd2 : (((pre.length : Int) + 1) == kk) = false := by rw [beq_eq_false_iff_ne]; omega
          have HEQ : Hid (pre.length + 1 < kk) := hid (by omega)
          clear heq hlt
          gi_wp2_with (first | (gi_at_builtin; refine app_in rfl (.tmp 19) (.tmp 21) Try.underlying23 Try.infoLine rfl (by decide) rfl (w4.heap.size + 2 + 3) _ _ _ rfl hoa ⟨W.heap.size, 0, none⟩ (Value.slice xa xl.length xc) rfl (cell_new1 _ _ _) rfl (by omega) (by simp; omega) ?_; intro v6 W6 hown6 hgrow6 hfr6; obtain ⟨g6, c6, rfl, hg6, hgl6⟩ := hown6.form (by omega); have HS3 := hid (HST.out _ _ hown6 hgrow6); have p2 := cell_of_one (HC1.out _ hgrow6); have z2 := free_of_one (HC1.out _ hgrow6); have p3 := cell_of_one HS3.out.2.2.o_; have p4 := cell_of_one HS3.out.2.2.k_; clear hown6 hgrow6 hfr6))
          obtain ⟨s1, s2, s3⟩ := HS3.out
          first | exact ⟨s1, s2, by rw [List.length_append]; exact HEQ.out, _, s3⟩ | (rw [HZ4.out] at s2 s3; exact ⟨s1, s2, by rw [List.length_append]; exact HEQ.out, _, s3⟩)
      case done =>
        rintro D xs W hD hS ⟨hlt, v, hm⟩ hK
        obtain ⟨A5, c5, rfl⟩ := own_slice hm.own
        have p1 := cell_of_one hm.o_
        have z1 := free_of_one hm.o_
        have hlen := congrArg List.length hS
        simp only [sig, List.length_map] at hlen
        have HS := hid hS
        have HLT := hid hlt
        clear hS hlt
        by_cases hx : xs.length = 0
        · have hd3 : ((xs.length : Int) == 0) = true := by rw [hx]; rfl
          have HJ := hid (hJ3.out (List.eq_nil_of_length_eq_zero (by omega)))
          clear hx hlen
          gi_wp2
          have hK2 : (W.setCell ⟨w.heap.size + 1, 0, none⟩ (.slice none 0 0)).heap[D]? = some (.deferred (some [])) := by
            rw [Below.heap_setCell _ _ _ _ (show D ≠ w.heap.size + 1 by omega)]
            exact hK
          have p4 := cell_of_one ((World.putObj_heap_other (o := .deferred none) (show w.heap.size + 1 ≠ D by omega)).trans (one_setCell (u := .slice none 0 0) hm.o_))
          refine ⟨by simp, .inl ⟨_, _, rfl, run_takeDeferred hK2, ?_⟩⟩
          exact ⟨.tuple #[.slice none 0 0, .int .i64 82], by simp [results, Try.results40, go_sem, p4], joinC_none HJ.out ((hm.bel.setCell (by simp) _).grown (grownBy_putObj' _ _ _) (by simpa using hm.bel.size) (fun k e => by cases e; omega))⟩
        · have hd3 : ((xs.length : Int) == 0) = false := by rw [beq_eq_false_iff_ne]; omega
          have HF := hid (join_fin hJ4.out (by rw [HS.out, List.take_of_length_le (by have := HLT.out; omega)]) (fun e => hx (by rw [e]; rfl)) hm hwB (by omega) hK)
          clear hx hlen
          gi_wp2
          have hK2 : (W.setCell ⟨w.heap.size + 1, 0, none⟩ (.slice A5 xs.length c5)).heap[D]? = some (.deferred (some [])) := by
            rw [Below.heap_setCell _ _ _ _ (show D ≠ w.heap.size + 1 by omega)]
            exact hK
          have p4 := cell_of_one ((World.putObj_heap_other (o := .deferred none) (show w.heap.size + 1 ≠ D by omega)).trans (one_setCell (u := .slice A5 xs.length c5) hm.o_))
          refine ⟨by simp, .inl ⟨_, _, rfl, run_takeDeferred hK2, ?_⟩⟩
          exact ⟨.tuple #[.slice A5 xs.length c5, .int .i64 0], by simp [results, Try.results40, go_sem, p4], HF.out⟩
      case stop =>
        rintro D cd pre W hD hSp ⟨rfl, hlen, v, hm⟩ hK
        obtain ⟨A5, c5, rfl⟩ := own_slice hm.own
        have p1 := cell_of_one hm.o_
        have z1 := free_of_one hm.o_
        have hd3 : ((pre.length : Int) == 0) = false := by rw [beq_eq_false_iff_ne]; omega
        have hs := List.prefix_iff_eq_take.1 hSp
        rw [show (sig pre).length = kk from by rw [← hlen]; simp [sig], ← List.map_take] at hs
        have HF := hid (join_fin hJ4.out hs (fun e => by rw [e] at hlen; simp at hlen; omega) hm hwB (by omega) hK)
        clear hs hSp hlen
        gi_wp2
        have hK2 : (W.setCell ⟨w.heap.size + 1, 0, none⟩ (.slice A5 pre.length c5)).heap[D]? = some (.deferred (some [])) := by
          rw [Below.heap_setCell _ _ _ _ (show D ≠ w.heap.size + 1 by omega)]
          exact hK
        have p4 := cell_of_one ((World.putObj_heap_other (o := .deferred none) (show w.heap.size + 1 ≠ D by omega)).trans (one_setCell (u := .slice A5 pre.length c5) hm.o_))
        refine ⟨by simp, .inl ⟨_, _, rfl, run_takeDeferred hK2, ?_⟩⟩
        exact ⟨.tuple #[.slice A5 pre.length c5, .int .i64 0], by simp [results, Try.results40, go_sem, p4], HF.out⟩
    · have hJ := hid (join_e2 h0 hk)
      have hd : decide (1 ≤ k ∧ k ≤ 64) = false := decide_eq_false hk
      rw [h0] at HC
      generalize hN : bs.length = N at *
      clear r h0 hN hk
      refine callsIn_of_wp_marks Try.func40 rfl trivial ?_ rfl
      simp only [Try.ntmps40, List.size_toArray, List.length_cons, List.length_nil, Nat.reduceAdd, Nat.reduceSub, Array.replicate_succ, Array.replicate_zero, List.push_toArray, List.append_toArray, List.nil_append, List.cons_append]
      gi_wp2_with (first | ((first | refine ⟨trivial, hdd _, ?_⟩ | refine ⟨hdd _, ?_⟩ | refine ⟨trivial, ?_⟩ | skip); gi_at_call 32; refine (callsIn_wide.2 (HC.out _ hal)).mono ?_; rintro e w3 ⟨rfl, hb3⟩; have g3 := (hb3.block _ (by simp; omega)).trans hnk; have g4 := (hb3.block _ (by simp)).trans hno; have p3 := cell_of_one g3; have p4 := cell_of_one g4; have z4 := free_of_one g4; have hB3 := hal.trans (hb3.mono hal.size)) | ((first | refine ⟨trivial, hdd _, ?_⟩ | refine ⟨hdd _, ?_⟩ | refine ⟨trivial, ?_⟩ | skip); gi_at_call 61; refine (callsIn_wide.2 (within_any _ _ _ _)).mono ?_; rintro e w' ⟨rfl, rfl⟩))
      have p5 := cell_of_one (one_setCell (u := .slice none 0 0) g4)
      exact ⟨.tuple #[.slice none 0 0, .int .i64 1], by simp [results, Try.results40, go_sem, p5], joinC_none hJ.out (hB3.setCell (by simp) _)⟩
  · have hJ := hid (join_e1 (k := k) h0)
    generalize blksErr bs = e0 at h0 HC hJ
    generalize hN : bs.length = N at *
    clear r hN
    refine callsIn_of_wp_marks Try.func40 rfl trivial ?_ rfl
    simp only [Try.ntmps40, List.size_toArray, List.length_cons, List.length_nil, Nat.reduceAdd, Nat.reduceSub, Array.replicate_succ, Array.replicate_zero, List.push_toArray, List.append_toArray, List.nil_append, List.cons_append]
    gi_wp2_with (first | ((first | refine ⟨trivial, hdd _, ?_⟩ | refine ⟨hdd _, ?_⟩ | refine ⟨trivial, ?_⟩ | skip); gi_at_call 32; refine (callsIn_wide.2 (HC.out _ hal)).mono ?_; rintro e w3 ⟨rfl, hb3⟩; have g4 := (hb3.block _ (by simp)).trans hno; have p4 := cell_of_one g4; have z4 := free_of_one g4; have hB3 := hal.trans (hb3.mono hal.size)))
    have p5 := cell_of_one (one_setCell (u := .slice none 0 0) g4)
    exact ⟨.tuple #[.slice none 0 0, .int .i64 e0], by simp [results, Try.results40, go_sem, p5], joinC_none hJ.out (hB3.setCell (by simp) _)⟩
theorem join_any (bs : List Bk) (k : Int) (A : Option Addr) (c : Nat) (w : World) (r : Bks w w.heap.size A bs) :
    Calls Try.prog 40 #[.slice A bs.length c, .int .i64 k] w fun e w' => JoinIs bs k w e w' :=
  (joinC_any bs k A c w r).mono fun _ _ ⟨A', c', es, h1, h2, h3, _, h5⟩ => ⟨A', c', es, h1, h2, h3, h5⟩
end Go.Proofs.Ytoljnbbhoeloeaa
