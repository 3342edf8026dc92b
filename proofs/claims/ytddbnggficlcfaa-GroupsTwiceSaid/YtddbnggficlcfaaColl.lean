/- WALK: slices.Collect of the kids of a node. -/
import Derived.Test.YtddbnggficlcfaaKids
namespace Go.Proofs.Ytddbnggficlcfaa
open Go.RowKit Go.Shelf
attribute [local go_sem] Oper.semAt_some
def nz (l : List Nat) : List Int := l.map fun x : Nat => (x : Int)
theorem nz_len (l : List Nat) : (nz l).length = l.length := by simp [nz]
set_option maxRecDepth 100000 in
theorem kids_any (A : Option Addr) (N c : Nat) (node : Int) (w : World) :
    Calls Try.prog 66 #[.slice A N c, .int .i64 node] w fun e w' => e = .returned (.func (.func 91) #[] #[.pointer (some ⟨w.heap.size, 0, none⟩), .pointer (some ⟨w.heap.size + 1, 0, none⟩)]) ∧
      w' = (w.alloc (.cells #[.slice A N c] 25)).alloc (.cells #[.int .i64 node] 3) := by
  go_enter Try.func66, Try.ntmps66
  go_wp2_with fail
  go_ret
  exact ⟨rfl, rfl⟩
theorem kids_kk {l : List Nd} {A : Option Addr} {c n0 : Nat} {node : Int} {w : World} (r : Nds w n0 A l) (hn : n0 ≤ w.heap.size) :
    KK l A c node n0 w.heap.size (w.heap.size + 1) ((w.alloc (.cells #[.slice A l.length c] 25)).alloc (.cells #[.int .i64 node] 3)) where
  l_ := (Below.heap_alloc _ _ _ (by simp)).trans (heap_alloc_new _ _)
  n_ := by
    have := heap_alloc_new (w.alloc (.cells #[.slice A l.length c] 25)) (.cells #[.int .i64 node] 3)
    simpa using this
  nds := r.below ((((Below.refl _ _).alloc (Nat.le_refl _) _).alloc (by simp) _).mono hn)
/-- What Collect keeps: the list's cell, the list. -/
structure CM (w : World) (s : List Nat) (v : Value) (W : World) : Prop where
  c_ : W.heap[w.heap.size]? = some (.cells #[v] 38 (0, 0))
  own : W.ownsRow (w.heap.size + 3) 3 1 v s.length (ints (nz s))
  bel : Below w.heap.size w W
theorem CM.grown {w W W' : World} {s : List Nat} {v : Value} {row : Option Nat} (h : CM w s v W) (hg : W.grownBy W' row) (hr : ∀ r, row = some r → w.heap.size + 1 ≤ r ∧ ∃ o : Obj, W.heap[r]? = some o ∧ o.isCells = false) : CM w s v W' := by
  have hz := h.bel.size
  refine ⟨(hg.block _ (lt_of_block h.c_) fun e => by have := (hr _ e.symm).1; omega).trans h.c_, ?_, h.bel.grown hg hz fun k e => by have := (hr k e).1; omega⟩
  obtain ⟨h1, h2⟩ := h.own
  refine ⟨h1, ?_⟩
  rcases h2 with h2 | ⟨g, cap, cur, hv, hgb, hh, rest⟩
  · exact .inl h2
  · refine .inr ⟨g, cap, cur, hv, hgb, (hg.block g (lt_of_block hh) fun e => ?_).trans hh, rest⟩
    obtain ⟨_, o, h4, h5⟩ := hr g e.symm
    rw [hh] at h4
    injection h4 with h4
    rw [← h4] at h5
    cases h5
theorem CM.step {w W W6 : World} {s : List Nat} {v v' : Value} {k : Nat} (h : CM w s v W) (hz : w.heap.size + 3 ≤ W.heap.size)
    (hown : W6.ownsRow (w.heap.size + 3) 3 1 v' (s.length + 1) (ints (nz s) ++ [.int .i64 (k : Int)])) (hg : (W.alloc (.cells #[.int .i64 (k : Int)] 3)).grownBy W6 v.ownBlock) :
    KeepsOthers W (W6.setCell ⟨w.heap.size, 0, none⟩ v') ∧ CM w (s ++ [k]) v' (W6.setCell ⟨w.heap.size, 0, none⟩ v') := by
  have hoa := h.own.alloc (.cells #[.int .i64 (k : Int)] 3)
  have hlt := hoa.lt
  refine ⟨?_, ?_, ?_, ?_⟩
  · refine ((KeepsOthers.alloc W _).trans (KeepsOthers.of_grownBy hg fun j o hj ho => ?_)).trans (KeepsOthers.setCell _ _ _)
    rcases hoa.2 with ⟨h4, _⟩ | ⟨g, cap, cur, hv, _, hh, _⟩
    · rw [h4] at hj; cases hj
    · rw [hv] at hj
      injection hj with hj
      rw [← show g = j from hj, hh] at ho
      injection ho with ho
      rw [← ho]; rfl
  · refine one_setCell (v := v) ?_
    rw [hg.block _ (by simp; omega) fun e => by have := (hlt _ e.symm).1; omega]
    exact (Below.heap_alloc _ _ _ (by omega)).trans h.c_
  · rw [List.length_append]
    have := ownsRow_setCell_other hown (a := ⟨w.heap.size, 0, none⟩) (fun he => by have := (hown.lt _ he).1; simp at this; omega) v'
    have e : ints (nz (s ++ [k])) = ints (nz s) ++ [.int .i64 (k : Int)] := by unfold nz; rw [List.map_append, ints_append]; rfl
    rw [e]
    exact this
  · have h1 : Below w.heap.size w (W.alloc (.cells #[.int .i64 (k : Int)] 3)) := h.bel.alloc h.bel.size _
    exact (below_app h1 hoa hg (by omega) (by simp; omega)).setCell (Nat.le_refl _) _
theorem CM.stands {w : World} {s : List Nat} : Stands (w.heap.size + 1) (fun W => ∃ v, CM w s v W) :=
  Stands.of_grown fun _ _ _ ⟨v, h⟩ hg hr => ⟨v, h.grown hg hr⟩
theorem kidsR_len {l : List Nd} {to : Nat} : ∀ f k, (kidsR l to f k).length ≤ f
  | 0, _ => Nat.zero_le _
  | f + 1, k => by
    unfold kidsR
    split
    · have := kidsR_len (l := l) (to := to) f (endOf l k)
      rw [List.length_cons]; omega
    · exact Nat.zero_le _
theorem kidsOf_len {l : List Nd} {node : Int} (h : node < l.length) : (kidsOf l node).length ≤ l.length := by
  unfold kidsOf kidsFrom
  have h1 := kidsR_len (l := l) (to := kidsTo l node) (kidsTo l node - kidsFr node) (kidsFr node)
  have h2 : kidsTo l node ≤ l.length := by
    unfold kidsTo
    split
    · exact endOf_le (by omega)
    · exact Nat.le_refl _
  omega
set_option maxRecDepth 100000 in
set_option maxHeartbeats 2000000 in
theorem appSeq_any (l : List Nd) (node : Int) (hnode : node < l.length) (hnl : -9223372036854775808 ≤ node) (hl : l.length ≤ 1000000) (A : Option Addr) (c n0 b1 b2 : Nat) (w : World) (hK : KK l A c node n0 b1 b2 w) (hn0 : n0 ≤ w.heap.size) :
    Calls Try.prog 90 #[.slice none 0 0, .func (.func 91) #[] #[.pointer (some ⟨b1, 0, none⟩), .pointer (some ⟨b2, 0, none⟩)]] w fun e w' =>
      ∃ v, e = .returned v ∧ w'.ownsRow w.heap.size 3 1 v (kidsOf l node).length (ints (nz (kidsOf l node))) ∧ Below w.heap.size w w' := by
  refine (callsIn_wide (n := 8)).1 ?_
  have hlen := kidsOf_len hnode
  have hseq := kids_seq l node hnode hnl hl A c n0 b1 b2 7
  have hK1 : ∀ s W, (∃ v, CM w s v W) → KK l A c node n0 b1 b2 W := fun s W ⟨v, h⟩ =>
    ⟨(h.bel.block _ (lt_of_block hK.l_)).trans hK.l_, (h.bel.block _ (lt_of_block hK.n_)).trans hK.n_, hK.nds.below (h.bel.mono hn0)⟩
  obtain ⟨xs, hxs⟩ : ∃ xs, xs = kidsOf l node := ⟨_, rfl⟩
  rw [← hxs] at hlen hseq ⊢
  clear hxs
  refine callsIn_of_wp_marks Try.func90 rfl trivial ?_ rfl
  simp only [Try.ntmps90, List.size_toArray, List.length_cons, List.length_nil, Nat.reduceAdd, Nat.reduceSub, Array.replicate_succ, Array.replicate_zero, List.push_toArray, List.append_toArray, List.nil_append, List.cons_append]
  gi_wp2
  have hsz : (w.alloc (.cells #[.slice none 0 0] 38)).heap.size = w.heap.size + 1 := by simp
  refine range_draws rfl (by omega) (gf := 91) (lb := #[.pointer (some ⟨b1, 0, none⟩), .pointer (some ⟨b2, 0, none⟩)]) rfl trivial (enters_of Try.func91 (by kernel_rfl) rfl) hseq (fun _ => rfl)
    (fun s W => ∃ v, CM w s v W) (fun _ _ _ => False) (fun s => by rw [hsz]; exact CM.stands) (fun _ _ => ⟨fun _ _ h => h, fun _ _ h => h, fun _ _ _ _ h _ _ _ => h⟩) hK1
    ⟨.slice none 0 0, heap_alloc_new _ _, World.ownsRow_nil _ _ _ _, (Below.refl _ _).alloc (Nat.le_refl _) _⟩
    (fun x => { tmps := #[.slice none 0 0, .func (.func 91) #[] #[.pointer (some ⟨b1, 0, none⟩), .pointer (some ⟨b2, 0, none⟩)], .pointer (some ⟨w.heap.size, 0, none⟩), undef, .slice none 0 0, .int .i64 (x : Int), .func (.func 91) #[] #[.pointer (some ⟨b1, 0, none⟩), .pointer (some ⟨b2, 0, none⟩)], .int .i64 (x : Int), undef, undef, undef, undef, undef], defers := [] }) ?assign ?body ?done ?stop
  case assign =>
    intro l x W K hK
    gi_wp2
    exact hK
  case body =>
    rintro lid pre x W ⟨v, hm⟩ hpx hz
    have p1 := cell_of_one hm.c_
    have z1 := free_of_one hm.c_
    have hpl : pre.length ≤ 1000000 := by
      have := hpx.length_le
      simp at this
      omega
    obtain ⟨A5, c5, rfl⟩ := own_slice hm.own
    have hz3 : w.heap.size + 3 ≤ W.heap.size := by rw [hsz] at hz; omega
    have HST := hid fun (W6 : World) (v' : Value) h1 h2 => hm.step (k := x) (W6 := W6) (v' := v') hz3 h1 h2
    have hoa := hm.own.alloc (.cells #[.int .i64 (x : Int)] 3)
    have HC1 := hid fun (W6 : World) (h2 : (W.alloc (.cells #[.int .i64 (x : Int)] 3)).grownBy W6 (Value.slice A5 pre.length c5).ownBlock) => show W6.heap[w.heap.size]? = some (.cells #[.slice A5 pre.length c5] 38 (0, 0)) from
      (h2.block _ (by simp; omega) (fun e => by have := (hoa.lt _ e.symm).1; omega)).trans ((Below.heap_alloc _ _ _ (lt_of_block hm.c_)).trans hm.c_)
    clear hpx hz
    gi_wp2_with (first | (gi_at_builtin; refine app_in rfl (.tmp 8) (.tmp 10) Try.underlying38 Try.infoInt rfl (by decide) rfl (w.heap.size + 3) _ _ _ rfl hoa ⟨W.heap.size, 0, none⟩ (.int .i64 (x : Int)) rfl (cell_new1 _ _ _) rfl (by omega) (by simp; omega) ?_; intro v6 W6 hown6 hgrow6 hfr6; have HS3 := hid (HST.out _ _ hown6 hgrow6); have p2 := cell_of_one (HC1.out _ hgrow6); have z2 := free_of_one (HC1.out _ hgrow6); obtain ⟨g6, c6, rfl, hg6, hgl6⟩ := hown6.form (by omega); clear hown6 hgrow6 hfr6))
    exact ⟨HS3.out.1, trivial, _, HS3.out.2⟩
  case done =>
    rintro D W hD ⟨v, hm⟩ hK
    have p1 := cell_of_one hm.c_
    have z1 := free_of_one hm.c_
    obtain ⟨A5, c5, rfl⟩ := own_slice hm.own
    rw [hsz] at hD
    gi_wp2
    have hm2 := hm.grown (grownBy_putObj' W D (.deferred none)) (fun r e => by cases e; exact ⟨hD, _, hK, rfl⟩)
    refine ⟨by simp, .inl ⟨_, _, rfl, run_takeDeferred hK, ?_⟩⟩
    exact ⟨.slice A5 xs.length c5, by simp [results, Try.results90, go_sem], _, rfl, own_base hm2.own (by omega), hm2.bel⟩
  case stop =>
    rintro D cd pre W _ _ h _
    exact h.elim
set_option maxRecDepth 100000 in
theorem collect_any (l : List Nd) (node : Int) (hnode : node < l.length) (hnl : -9223372036854775808 ≤ node) (hl : l.length ≤ 1000000) (A : Option Addr) (c n0 b1 b2 : Nat) (w : World) (hK : KK l A c node n0 b1 b2 w) (hn0 : n0 ≤ w.heap.size) :
    Calls Try.prog 65 #[.func (.func 91) #[] #[.pointer (some ⟨b1, 0, none⟩), .pointer (some ⟨b2, 0, none⟩)]] w fun e w' =>
      ∃ v, e = .returned v ∧ w'.ownsRow w.heap.size 3 1 v (kidsOf l node).length (ints (nz (kidsOf l node))) ∧ Below w.heap.size w w' := by
  have HA := hid (appSeq_any l node hnode hnl hl A c n0 b1 b2 w hK hn0)
  clear hK
  go_enter Try.func65, Try.ntmps65
  go_wp2_with (first | (go_at_call 90; refine HA.out.mono ?_; rintro e w4 ⟨v4, rfl, ho4, hb4⟩; have HO := hid ho4; have HB := hid hb4; clear ho4 hb4))
  go_ret
  exact ⟨_, rfl, HO.out, HB.out⟩
end Go.Proofs.Ytddbnggficlcfaa
