/- WALK: groups.order as a whole. -/
import Derived.Test.YtddbnggficlcfaaOrder
namespace Go.Proofs.Ytddbnggficlcfaa
open Go.RowKit Go.Shelf
def span (l : List Nd) (node : Int) : Nat := if 0 ≤ node then endOf l node.toNat - node.toNat else l.length
theorem endR_stops {l : List Nd} {d : Int} {t : Nat} (ht : ¬ (t < l.length ∧ d < dep l t)) : ∀ (f k : Nat), k ≤ t → endR l d f k ≤ t
  | 0, k, h => h
  | f + 1, k, h => by
    unfold endR
    split
    · rename_i h2
      by_cases e : k = t
      · subst e; exact absurd h2 ht
      · exact endR_stops ht f (k + 1) (by omega)
    · exact h
theorem endR_low {l : List Nd} {d : Int} : ∀ (f k j : Nat), k ≤ j → j < endR l d f k → d < dep l j
  | 0, k, j, h1, h2 => by unfold endR at h2; omega
  | f + 1, k, j, h1, h2 => by
    unfold endR at h2
    split at h2
    · rename_i h3
      by_cases e : j = k
      · subst e; exact h3.2
      · exact endR_low f (k + 1) j (by omega) h2
    · omega
theorem endR_at' {l : List Nd} {d : Int} (f k : Nat) (h : l.length ≤ f + k) : ¬ (endR l d f k < l.length ∧ d < dep l (endR l d f k)) := by
  induction f generalizing k with
  | zero => unfold endR; omega
  | succ f ih =>
    unfold endR
    split
    · exact ih (k + 1) (by omega)
    · rename_i h2; exact h2
/-- A kid's nodes lie among those of the node. -/
theorem end_in {l : List Nd} {node : Int} (_h1 : -1 ≤ node) (_h2 : node < l.length) {x : Nat} (hx : kidsFr node ≤ x) (hx2 : x < kidsTo l node) : endOf l x ≤ kidsTo l node := by
  unfold kidsFr at hx
  unfold kidsTo at hx2 ⊢
  split at hx
  · rename_i h0
    rw [if_pos h0] at hx2 ⊢
    have hd : dep l node.toNat < dep l x := endR_low _ _ _ hx hx2
    have hs := endR_at' (l := l) (d := dep l node.toNat) l.length (node.toNat + 1) (by omega)
    refine endR_stops (fun h => hs ⟨h.1, by have := h.2; show dep l node.toNat < dep l (endOf l node.toNat); omega⟩) _ _ (show x + 1 ≤ endOf l node.toNat by omega)
  · rename_i h0
    rw [if_neg h0] at hx2 ⊢
    exact endOf_le hx2
theorem kids_span {l : List Nd} {to : Nat} : ∀ (f k : Nat), (∀ x, k ≤ x → x < to → endOf l x ≤ to) → ((kidsR l to f k).map fun x : Nat => span l (x : Int)).sum ≤ to - k
  | 0, k, _ => by simp [kidsR]
  | f + 1, k, h => by
    unfold kidsR
    split
    · rename_i hk
      have h1 := h k (Nat.le_refl _) hk
      have h2 := endOf_gt l k
      have ih := kids_span f (endOf l k) fun x hx hx2 => h x (by omega) hx2
      rw [List.map_cons, List.sum_cons]
      have e : span l (k : Int) = endOf l k - k := if_pos (by omega)
      rw [e]
      omega
    · simp
theorem flat_sum {g : Nat → List Nat} {s : Nat → Nat} : ∀ (ks : List Nat), (∀ k ∈ ks, (g k).length ≤ s k) → (ks.flatMap g).length ≤ (ks.map s).sum
  | [], _ => by simp
  | k :: ks, h => by
    have h1 := h k (by simp)
    have h2 := flat_sum (g := g) (s := s) ks fun x hx => h x (by simp [hx])
    rw [List.flatMap_cons, List.length_append, List.map_cons, List.sum_cons]
    omega
theorem ordK_sum {l : List Nd} {node : Int} {s : Nat → Nat} : ((ordK l node).map s).sum = ((kidsOf l node).map s).sum := by
  unfold ordK
  split
  · rw [List.map_append, List.sum_append]
    cases kidsOf l node with
    | nil => rfl
    | cons a ks =>
      simp only [List.tail_cons, List.take_succ_cons, List.take_zero, List.map_cons, List.map_nil, List.sum_cons, List.sum_nil]
      omega
  · rfl
theorem lvs_len {l : List Nd} : ∀ (f : Nat) (node : Int), -1 ≤ node → node < l.length → (lvs l f node).length ≤ span l node
  | 0, node, _, _ => Nat.zero_le _
  | f + 1, node, h1, h2 => by
    unfold lvs
    split
    · rename_i h
      have e : span l node = endOf l node.toNat - node.toNat := if_pos h.1
      have := endOf_gt l node.toNat
      rw [e, List.length_singleton]
      omega
    · have h3 := flat_sum (g := fun k : Nat => lvs l f (k : Int)) (s := fun k : Nat => span l (k : Int)) (ordK l node) fun k hk => by
        have := kidsOf_mem h1 h2 (ordK_mem hk)
        exact lvs_len f _ (by omega) (by omega)
      rw [ordK_sum] at h3
      have h4 := kids_span (l := l) (to := kidsTo l node) (kidsTo l node - kidsFr node) (kidsFr node) fun x hx hx2 => end_in h1 h2 hx hx2
      have h5 : kidsTo l node - kidsFr node ≤ span l node := by
        unfold kidsTo kidsFr span
        split <;> omega
      unfold kidsOf kidsFrom at h3
      omega
theorem rgsL_len {rg : Nat → Nat → List (Nat × Nat × Nat)} {lv s : Nat → Nat} : ∀ (ks : List Nat) (r : Nat), (∀ k ∈ ks, ∀ r, (rg k r).length ≤ s k) → (rgsL rg lv ks r).length ≤ (ks.map s).sum
  | [], _, _ => by simp [rgsL]
  | k :: ks, r, h => by
    have h1 := h k (by simp) r
    have h2 := rgsL_len (rg := rg) (lv := lv) (s := s) ks (r + lv k) fun x hx => h x (by simp [hx])
    rw [rgsL, List.length_append, List.map_cons, List.sum_cons]
    omega
theorem rgs_len {l : List Nd} : ∀ (f : Nat) (node : Int) (r : Nat), -1 ≤ node → node < l.length → (rgs l f node r).length ≤ span l node
  | 0, node, _, _, _ => Nat.zero_le _
  | f + 1, node, r, h1, h2 => by
    unfold rgs
    split
    · exact Nat.zero_le _
    · have h3 := rgsL_len (rg := fun (k : Nat) r => rgs l f (k : Int) r) (lv := fun k : Nat => (lvs l f (k : Int)).length) (s := fun k : Nat => span l (k : Int)) (ordK l node) r fun k hk r => by
        have := kidsOf_mem h1 h2 (ordK_mem hk)
        exact rgs_len f _ r (by omega) (by omega)
      rw [ordK_sum] at h3
      have h4 := kids_span (l := l) (to := kidsTo l node) (kidsTo l node - kidsFr node) (kidsFr node) fun x hx hx2 => end_in h1 h2 hx hx2
      unfold kidsOf kidsFrom at h3
      rw [List.length_append]
      by_cases h0 : 0 ≤ node
      · have h5 : kidsTo l node - kidsFr node + 1 ≤ span l node := by
          have := endOf_gt l node.toNat
          unfold kidsTo kidsFr span
          simp only [if_pos h0]
          omega
        have h6 : (if 0 ≤ node ∧ kd l node.toNat = 5 then [(node.toNat, r, r + (lvs l (f + 1) node).length)] else []).length ≤ 1 := by split <;> simp
        omega
      · have h5 : kidsTo l node - kidsFr node ≤ span l node := by
          unfold kidsTo kidsFr span
          simp only [if_neg h0]
          omega
        rw [if_neg (fun h => h0 h.1), List.length_nil]
        omega
theorem lvs_all {l : List Nd} (f : Nat) : (lvs l f (-1)).length ≤ l.length := by
  have := lvs_len (l := l) f (-1) (by omega) (by omega)
  exact this
/-- The leaves of a text in the order in which they are read; its rings. -/
def leaves (l : List Nd) : List Nat := lvs l (l.length + 1) (-1)
def ringsOf (l : List Nd) : List (Nat × Nat × Nat) := rgs l (l.length + 1) (-1) 0
set_option maxRecDepth 100000 in
set_option maxHeartbeats 1000000 in
theorem order_any (l : List Nd) (hl : l.length ≤ 1000000) (hH : ∀ i : Nat, i < l.length → kd l i = 7 → 2 ≤ (kidsOf l (i : Int)).length) (A : Option Addr) (c n0 lf : Nat) (lc : Array Value) (rf : Nat) (rc : Array Value) (w : World) (hn0 : n0 ≤ w.heap.size) (r : Nds w n0 A l)
    (J : List Nat → List (Nat × Nat × Nat) → World → Prop) (T : Told l A c n0 w.heap.size lf lc rf rc J) (hJ : J [] [] w) :
    Calls Try.prog 79 #[.slice A l.length c, .func (.func lf) #[] lc, .func (.func rf) #[] rc] w fun e w' => e = .returned (.tuple #[]) ∧ J (leaves l) (ringsOf l) w' ∧ KV n0 w.heap.size w w' := by
  obtain ⟨W, hW⟩ : ∃ W, W = (((((w.alloc (.cells #[.slice A l.length c] 25)).alloc (.cells #[.func (.func lf) #[] lc] 103)).alloc (.cells #[.func (.func rf) #[] rc] 104)).alloc (.cells #[.int .i64 0] 3)).alloc (.cells #[.func (.func 98) #[] (caps w.heap.size)] 103)) := ⟨_, rfl⟩
  have hb : Below w.heap.size w W := by rw [hW]; exact (((((Below.refl _ _).alloc (Nat.le_refl _) _).alloc (by simp) _).alloc (by simp <;> omega) _).alloc (by simp <;> omega) _).alloc (by simp <;> omega) _
  have hV : VF l A c n0 w.heap.size lf lc rf rc W := by
    rw [hW]
    refine ⟨?_, ?_, ?_, ?_, ?_⟩
    · rw [Below.heap_alloc _ _ _ (by simp <;> omega), Below.heap_alloc _ _ _ (by simp <;> omega), Below.heap_alloc _ _ _ (by simp <;> omega), Below.heap_alloc _ _ _ (by simp <;> omega)]
      exact heap_alloc_new _ _
    · rw [Below.heap_alloc _ _ _ (by simp <;> omega), Below.heap_alloc _ _ _ (by simp <;> omega), Below.heap_alloc _ _ _ (by simp <;> omega)]
      have := heap_alloc_new (w.alloc (.cells #[.slice A l.length c] 25)) (.cells #[.func (.func lf) #[] lc] 103)
      simpa using this
    · rw [Below.heap_alloc _ _ _ (by simp <;> omega), Below.heap_alloc _ _ _ (by simp <;> omega)]
      have := heap_alloc_new ((w.alloc (.cells #[.slice A l.length c] 25)).alloc (.cells #[.func (.func lf) #[] lc] 103)) (.cells #[.func (.func rf) #[] rc] 104)
      simpa using this
    · have := heap_alloc_new ((((w.alloc (.cells #[.slice A l.length c] 25)).alloc (.cells #[.func (.func lf) #[] lc] 103)).alloc (.cells #[.func (.func rf) #[] rc] 104)).alloc (.cells #[.int .i64 0] 3)) (.cells #[.func (.func 98) #[] (caps w.heap.size)] 103)
      simpa using this
    · exact r.below (by rw [← hW]; exact hb.mono hn0)
  have hR : RdN w.heap.size 0 W := by
    unfold RdN
    rw [hW, Below.heap_alloc _ _ _ (by simp <;> omega)]
    have := heap_alloc_new (((w.alloc (.cells #[.slice A l.length c] 25)).alloc (.cells #[.func (.func lf) #[] lc] 103)).alloc (.cells #[.func (.func rf) #[] rc] 104)) (.cells #[.int .i64 0] 3)
    simpa using this
  have hv := visit_any l hl hH A c n0 w.heap.size lf lc rf rc hn0 J T (l.length + 1) (-1) [] [] W (by omega) (by omega) (by omega) hV hR (T.below _ _ _ _ hJ hb) (by have := lvs_all (l := l) (l.length + 1); rw [List.length_nil]; omega) (by have := rgs_len (l := l) (l.length + 1) (-1) 0 (by omega) (by omega); have e : span l (-1) = l.length := if_neg (by omega); rw [e] at this; rw [List.length_nil, List.length_nil]; omega)
  rw [List.nil_append, List.nil_append, List.length_nil] at hv
  unfold vArgs at hv
  have hst : ∀ (m : Mode) (a : Addr) (fn : Fn) (first cap : Array Value) (w : World), (store a (.func fn first cap) m).run Try.prog w = stored Try.prog w a (.func fn first cap) m := fun m a fn first cap w => run_store _ w a _ m rfl
  have HVI := hid hv
  have HW := hid hW
  have HB := hid hb
  clear hv hV hR hJ T r hH hW hb
  obtain ⟨N, hN⟩ : ∃ N, N = l.length := ⟨_, rfl⟩
  rw [← hN] at hl HVI HW ⊢
  have HN := hid hN
  clear hN
  go_enter Try.func79, Try.ntmps79
  go_wp2_with fail
  have hcall := HVI.out
  rw [HW.out] at hcall
  unfold caps at hcall
  refine hcall.mono ?_
  rintro e w6 ⟨rfl, j6, k6, _⟩
  have J6 := hid j6
  have K6 := hid (((KV.of_below (B := w.heap.size) HB.out hn0)).trans (by rw [HW.out]; unfold caps; exact k6))
  clear j6 k6 hcall HVI
  go_wp2_with fail
  go_end0
  exact ⟨rfl, by unfold leaves ringsOf; rw [← HN.out]; exact J6.out, K6.out⟩
end Go.Proofs.Ytddbnggficlcfaa
