/- WALK: groups.order: the leaves of a text, as they are read, and its rings. -/
import Derived.Test.YtddbnggficlcfaaConc
namespace Go.Proofs.Ytddbnggficlcfaa
open Go.RowKit Go.Shelf
def kd (l : List Nd) (i : Nat) : Int := match l[i]? with
  | some n => n.kind
  | none => 0
theorem kd_at {l : List Nd} {i : Nat} (h : i < l.length) : kd l i = l[i].kind := by
  unfold kd
  rw [List.getElem?_eq_getElem h]
def leafB (k : Int) : Bool := decide (k = 1) || decide (k = 6)
set_option maxRecDepth 100000 in
theorem isLeaf_any (k d s t : Int) (m : Bool) (st mn mx : Int) (w : World) :
    Calls Try.prog 85 #[.agg #[.int .i64 k, .int .i64 d, .int .i64 s, .int .i64 t, .bool m, .int .i64 st, .int .i64 mn, .int .i64 mx]] w fun e w' => e = .returned (.bool (leafB k)) ∧ Below w.heap.size w w' := by
  by_cases h1 : k = 1
  · have e1 : (k == 1) = true := by simp [h1]
    have HX : Hid (leafB k = true) := by rw [h1]; exact hid rfl
    clear h1
    go_enter Try.func85, Try.ntmps85
    go_wp2_with fail
    go_ret
    exact ⟨by rw [HX.out]; rfl, (Below.refl _ _).alloc (Nat.le_refl _) _⟩
  · have e1 : (k == 1) = false := by simp [h1]
    by_cases h2 : k = 6
    · have e2 : (k == 6) = true := by simp [h2]
      have HX : Hid (leafB k = true) := by rw [h2]; exact hid rfl
      clear h1 h2
      go_enter Try.func85, Try.ntmps85
      go_wp2_with fail
      go_ret
      exact ⟨by rw [HX.out]; rfl, (Below.refl _ _).alloc (Nat.le_refl _) _⟩
    · have e2 : (k == 6) = false := by simp [h2]
      have HX : Hid (leafB k = false) := by unfold leafB; rw [decide_eq_false h1, decide_eq_false h2]; exact hid rfl
      clear h1 h2
      go_enter Try.func85, Try.ntmps85
      go_wp2_with fail
      go_ret
      exact ⟨by rw [HX.out]; rfl, (Below.refl _ _).alloc (Nat.le_refl _) _⟩
/-- The kids of a node as they are read: those of an Honour from the second one on, the first one last. -/
def ordK (l : List Nd) (node : Int) : List Nat := if 0 ≤ node ∧ kd l node.toNat = 7 then (kidsOf l node).tail ++ (kidsOf l node).take 1 else kidsOf l node
def lvs (l : List Nd) : Nat → Int → List Nat
  | 0, _ => []
  | f + 1, node => if 0 ≤ node ∧ leafB (kd l node.toNat) = true then [node.toNat] else (ordK l node).flatMap fun k : Nat => lvs l f (k : Int)
def rgsL (rg : Nat → Nat → List (Nat × Nat × Nat)) (lv : Nat → Nat) : List Nat → Nat → List (Nat × Nat × Nat)
  | [], _ => []
  | k :: ks, r => rg k r ++ rgsL rg lv ks (r + lv k)
def rgs (l : List Nd) : Nat → Int → Nat → List (Nat × Nat × Nat)
  | 0, _, _ => []
  | f + 1, node, r => if 0 ≤ node ∧ leafB (kd l node.toNat) = true then [] else
    rgsL (fun (k : Nat) r => rgs l f (k : Int) r) (fun k : Nat => (lvs l f (k : Int)).length) (ordK l node) r ++ (if 0 ≤ node ∧ kd l node.toNat = 5 then [(node.toNat, r, r + (lvs l (f + 1) node).length)] else [])
/-- The captured cells of the closure visit, five boxes from B on. -/
def caps (B : Nat) : Array Value := #[.pointer (some ⟨B, 0, none⟩), .pointer (some ⟨B + 3, 0, none⟩), .pointer (some ⟨B + 1, 0, none⟩), .pointer (some ⟨B + 4, 0, none⟩), .pointer (some ⟨B + 2, 0, none⟩)]
def vArgs (node : Int) (B : Nat) : Array Value := #[.int .i64 node, .pointer (some ⟨B, 0, none⟩), .pointer (some ⟨B + 3, 0, none⟩), .pointer (some ⟨B + 1, 0, none⟩), .pointer (some ⟨B + 4, 0, none⟩), .pointer (some ⟨B + 2, 0, none⟩)]
structure VF (l : List Nd) (A : Option Addr) (c n0 B lf : Nat) (lc : Array Value) (rf : Nat) (rc : Array Value) (W : World) : Prop where
  l_ : W.heap[B]? = some (.cells #[.slice A l.length c] 25 (0, 0))
  f_ : W.heap[B + 1]? = some (.cells #[.func (.func lf) #[] lc] 103 (0, 0))
  g_ : W.heap[B + 2]? = some (.cells #[.func (.func rf) #[] rc] 104 (0, 0))
  v_ : W.heap[B + 4]? = some (.cells #[.func (.func 98) #[] (caps B)] 103 (0, 0))
  nds : Nds W n0 A l
/-- How many leaves were read. -/
def RdN (B r : Nat) (W : World) : Prop := W.heap[B + 3]? = some (.cells #[.int .i64 r] 3 (0, 0))
/-- What stays: all below n₀, the five boxes but that of the number of leaves, and every row of numbers. -/
structure KV (n0 B : Nat) (W W' : World) : Prop where
  bel : Below n0 W W'
  own : ∀ (k : Nat) (o : Obj), k ≠ B + 3 → ((B ≤ k ∧ k < B + 5) ∨ ∃ (cs : Array Value) (fz : Nat × Nat), o = Obj.cells cs 3 fz) → W.heap[k]? = some o → W'.heap[k]? = some o
theorem KV.refl (n0 B : Nat) (W : World) : KV n0 B W W := ⟨Below.refl _ _, fun _ _ _ _ h => h⟩
theorem KV.trans {n0 B : Nat} {a b c : World} (h : KV n0 B a b) (k : KV n0 B b c) : KV n0 B a c := ⟨h.bel.trans k.bel, fun i o h1 h2 h3 => k.own i o h1 h2 (h.own i o h1 h2 h3)⟩
theorem KV.of_below {n0 B : Nat} {W W' : World} (h : Below W.heap.size W W') (hn : n0 ≤ W.heap.size) : KV n0 B W W' := ⟨h.mono hn, fun k _ _ _ hk => (h.block k (lt_of_block hk)).trans hk⟩
theorem KV.read {n0 B : Nat} {W : World} (hn : n0 ≤ B) (v : Value) : KV n0 B W (W.setCell ⟨B + 3, 0, none⟩ v) :=
  ⟨(Below.refl _ _).setCell (by simp; omega) v, fun k o h1 _ h => by rw [Below.heap_setCell _ _ _ _ h1]; exact h⟩
theorem VF.keep {l : List Nd} {A : Option Addr} {c n0 B lf : Nat} {lc : Array Value} {rf : Nat} {rc : Array Value} {W W' : World} (h : VF l A c n0 B lf lc rf rc W) (k : KV n0 B W W') : VF l A c n0 B lf lc rf rc W' :=
  ⟨k.own _ _ (by omega) (.inl ⟨by omega, by omega⟩) h.l_, k.own _ _ (by omega) (.inl ⟨by omega, by omega⟩) h.f_, k.own _ _ (by omega) (.inl ⟨by omega, by omega⟩) h.g_, k.own _ _ (by omega) (.inl ⟨by omega, by omega⟩) h.v_, h.nds.below k.bel⟩
theorem VF.size {l : List Nd} {A : Option Addr} {c n0 B lf : Nat} {lc : Array Value} {rf : Nat} {rc : Array Value} {W : World} (h : VF l A c n0 B lf lc rf rc W) : B + 5 ≤ W.heap.size := lt_of_block h.v_
theorem RdN.below {B r : Nat} {W W' : World} (h : RdN B r W) (hb : Below W.heap.size W W') : RdN B r W' := (hb.block _ (lt_of_block h)).trans h
/-- A row of numbers that stands whatever is read meanwhile. -/
theorem own_kv {n0 B M n : Nat} {W W' : World} {v : Value} {xs : List Value} (h : W.ownsRow M 3 1 v n xs) (hM : B + 4 ≤ M) (k : KV n0 B W W') : W'.ownsRow M 3 1 v n xs := by
  obtain ⟨h1, h2⟩ := h
  refine ⟨h1, ?_⟩
  rcases h2 with h2 | ⟨g, cap, cur, hv, hg, hh, r⟩
  · exact Or.inl h2
  · exact Or.inr ⟨g, cap, cur, hv, hg, k.own g _ (by omega) (.inr ⟨_, _, rfl⟩) hh, r⟩
theorem kidsR_mem {l : List Nd} {to : Nat} : ∀ (f k x : Nat), x ∈ kidsR l to f k → k ≤ x ∧ x < to
  | 0, _, _, h => by cases h
  | f + 1, k, x, h => by
    unfold kidsR at h
    split at h
    · rename_i hk
      rcases List.mem_cons.1 h with e | h
      · omega
      · have := kidsR_mem f _ x h
        have := endOf_gt l k
        omega
    · cases h
theorem kidsOf_mem {l : List Nd} {node : Int} (h1 : -1 ≤ node) (h2 : node < l.length) {x : Nat} (h : x ∈ kidsOf l node) : node < x ∧ x < l.length := by
  have h3 := kidsR_mem _ _ _ h
  unfold kidsFr kidsTo at h3
  split at h3
  · have := endOf_le (l := l) (i := node.toNat) (by omega)
    omega
  · omega
theorem ordK_mem {l : List Nd} {node : Int} {x : Nat} (h : x ∈ ordK l node) : x ∈ kidsOf l node := by
  unfold ordK at h
  split at h
  · rcases List.mem_append.1 h with h | h
    · exact List.mem_of_mem_tail h
    · exact List.mem_of_mem_take h
  · exact h
theorem nth_nz {x : List Nat} {i : Nat} (h : i < x.length) : nth (nz x) i = (x.getD i 0 : Int) := by
  unfold nth nz
  simp [List.getD, h]
def dn (l : List Nd) (f : Nat) (ks : List Nat) (j : Nat) : List Nat := (ks.take j).flatMap fun k : Nat => lvs l f (k : Int)
def rn (l : List Nd) (f : Nat) (ks : List Nat) (r j : Nat) : List (Nat × Nat × Nat) := rgsL (fun (k : Nat) r => rgs l f (k : Int) r) (fun k : Nat => (lvs l f (k : Int)).length) (ks.take j) r
theorem dn_s {l : List Nd} {f : Nat} {ks : List Nat} {j : Nat} (h : j < ks.length) : dn l f ks (j + 1) = dn l f ks j ++ lvs l f (ks[j] : Int) := by
  unfold dn
  rw [List.take_add_one, List.getElem?_eq_getElem h, Option.toList_some, List.flatMap_append]
  simp
theorem rgsL_app {rg : Nat → Nat → List (Nat × Nat × Nat)} {lv : Nat → List Nat} : ∀ (xs ys : List Nat) (r : Nat), rgsL rg (fun k => (lv k).length) (xs ++ ys) r = rgsL rg (fun k => (lv k).length) xs r ++ rgsL rg (fun k => (lv k).length) ys (r + (xs.flatMap lv).length)
  | [], ys, r => by simp [rgsL]
  | a :: xs, ys, r => by
    rw [List.cons_append, rgsL, rgsL, rgsL_app xs ys, List.append_assoc, List.flatMap_cons, List.length_append, Nat.add_assoc]
theorem rn_s {l : List Nd} {f : Nat} {ks : List Nat} {r j : Nat} (h : j < ks.length) : rn l f ks r (j + 1) = rn l f ks r j ++ rgs l f (ks[j] : Int) (r + (dn l f ks j).length) := by
  unfold rn dn
  rw [List.take_add_one, List.getElem?_eq_getElem h, Option.toList_some, rgsL_app (lv := fun k : Nat => lvs l f (k : Int))]
  congr 1
  simp [rgsL]
theorem dn_le {l : List Nd} {f : Nat} {ks : List Nat} {j : Nat} (h : j < ks.length) : (dn l f ks j).length + (lvs l f (ks[j] : Int)).length ≤ (dn l f ks ks.length).length := by
  have e : dn l f ks ks.length = dn l f ks (j + 1) ++ (ks.drop (j + 1)).flatMap fun k : Nat => lvs l f (k : Int) := by
    unfold dn
    rw [← List.flatMap_append, List.take_append_drop, List.take_length]
  rw [e, dn_s h, List.length_append, List.length_append]
  omega
theorem rn_le {l : List Nd} {f : Nat} {ks : List Nat} {r j : Nat} (h : j < ks.length) : (rn l f ks r j).length + (rgs l f (ks[j] : Int) (r + (dn l f ks j).length)).length ≤ (rn l f ks r ks.length).length := by
  have e : rn l f ks r ks.length = rn l f ks r (j + 1) ++ rgsL (fun (k : Nat) r => rgs l f (k : Int) r) (fun k : Nat => (lvs l f (k : Int)).length) (ks.drop (j + 1)) (r + ((ks.take (j + 1)).flatMap fun k : Nat => lvs l f (k : Int)).length) := by
    unfold rn
    rw [← rgsL_app (lv := fun k : Nat => lvs l f (k : Int)), List.take_append_drop, List.take_length]
  rw [e, rn_s h, List.length_append, List.length_append]
  omega
theorem lvs_no {l : List Nd} {f : Nat} {node : Int} (h : ¬ (0 ≤ node ∧ leafB (kd l node.toNat) = true)) : lvs l (f + 1) node = dn l f (ordK l node) (ordK l node).length := by
  unfold lvs dn
  rw [if_neg h, List.take_length]
theorem rgs_no {l : List Nd} {f : Nat} {node : Int} {r : Nat} (h : ¬ (0 ≤ node ∧ leafB (kd l node.toNat) = true)) : rgs l (f + 1) node r = rn l f (ordK l node) r (ordK l node).length ++ (if 0 ≤ node ∧ kd l node.toNat = 5 then [(node.toNat, r, r + (lvs l (f + 1) node).length)] else []) := by
  rw [rgs, if_neg h]
  unfold rn
  rw [List.take_length]
/-- What the loop over the kids keeps. -/
structure VL (l : List Nd) (A : Option Addr) (c n0 B lf : Nat) (lc : Array Value) (rf : Nat) (rc : Array Value) (J : List Nat → List (Nat × Nat × Nat) → World → Prop) (f : Nat) (ls : List Nat) (rs : List (Nat × Nat × Nat)) (W : World) (ks : List Nat) (M : Nat) (v : Value) (j : Nat) (wr : World) : Prop where
  j_ : J (ls ++ dn l f ks j) (rs ++ rn l f ks ls.length j) wr
  v_ : VF l A c n0 B lf lc rf rc wr
  r_ : RdN B (ls ++ dn l f ks j).length wr
  own : wr.ownsRow M 3 1 v ks.length (ints (nz ks))
  kv : KV n0 B W wr
/-- What the two functions that are told do, and what the told state stands. -/
structure Told (l : List Nd) (A : Option Addr) (c n0 B lf : Nat) (lc : Array Value) (rf : Nat) (rc : Array Value) (J : List Nat → List (Nat × Nat × Nat) → World → Prop) : Prop where
  below : ∀ ls rs W W', J ls rs W → Below W.heap.size W W' → J ls rs W'
  read : ∀ ls rs W v, J ls rs W → B + 5 ≤ W.heap.size → J ls rs (W.setCell ⟨B + 3, 0, none⟩ v)
  leaf : ∀ ls rs (i : Nat) W, J ls rs W → VF l A c n0 B lf lc rf rc W → i < l.length → leafB (kd l i) = true → ls.length < 1000000 →
    Calls Try.prog lf (#[.int .i64 (i : Int)] ++ lc) W fun e w' => e = .returned (.tuple #[]) ∧ J (ls ++ [i]) rs w' ∧ KV n0 B W w' ∧ w'.heap[B + 3]? = W.heap[B + 3]?
  ring : ∀ ls rs (i fr : Nat) W, J ls rs W → VF l A c n0 B lf lc rf rc W → i < l.length → kd l i = 5 → fr ≤ ls.length → ls.length ≤ 1000000 → rs.length < 1000000 →
    Calls Try.prog rf (#[.int .i64 (i : Int), .int .i64 (fr : Int), .int .i64 (ls.length : Int)] ++ rc) W fun e w' => e = .returned (.tuple #[]) ∧ J ls (rs ++ [(i, fr, ls.length)]) w' ∧ KV n0 B W w' ∧ w'.heap[B + 3]? = W.heap[B + 3]?
  lent : ∀ args w, (callFunc lf args).run Try.prog w = .ok (.enter lf args) w
  rent : ∀ args w, (callFunc rf args).run Try.prog w = .ok (.enter rf args) w
set_option maxRecDepth 100000 in
set_option maxHeartbeats 4000000 in
theorem visit_any (l : List Nd) (hl : l.length ≤ 1000000) (hH : ∀ i : Nat, i < l.length → kd l i = 7 → 2 ≤ (kidsOf l (i : Int)).length) (A : Option Addr) (c n0 B lf : Nat) (lc : Array Value) (rf : Nat) (rc : Array Value) (hn0 : n0 ≤ B)
    (J : List Nat → List (Nat × Nat × Nat) → World → Prop) (T : Told l A c n0 B lf lc rf rc J) :
    ∀ (f : Nat) (node : Int) (ls : List Nat) (rs : List (Nat × Nat × Nat)) (W : World), -1 ≤ node → node < l.length → (l.length : Int) - node ≤ f → VF l A c n0 B lf lc rf rc W → RdN B ls.length W → J ls rs W → ls.length + (lvs l f node).length ≤ 1000000 → rs.length + (rgs l f node ls.length).length ≤ 1000000 →
      Calls Try.prog 98 (vArgs node B) W fun e w' => e = .returned (.tuple #[]) ∧ J (ls ++ lvs l f node) (rs ++ rgs l f node ls.length) w' ∧ KV n0 B W w' ∧ RdN B (ls ++ lvs l f node).length w' := by
  intro f
  induction f with
  | zero => intro node ls rs W h1 h2 h3; omega
  | succ f ih =>
    intro node ls rs W h1 h2 h3 hV hR hJ hroom hrr
    have p1 := cell_of_one hV.l_
    have p2 := cell_of_one hR
    have z2 := free_of_one hR
    have p3 := cell_of_one hV.f_
    obtain ⟨N, hN⟩ : ∃ N, N = l.length := ⟨_, rfl⟩
    rw [← hN] at p1 h2 h3 hl
    have lent := T.lent
    have rent := T.rent
    by_cases h0 : 0 ≤ node
    · obtain ⟨i, rfl⟩ : ∃ i : Nat, node = i := ⟨node.toNat, by omega⟩
      have hi : i < N := by omega
      have hi' : i < l.length := by omega
      have d0 : decide ((0 : Int) ≤ (i : Int)) = true := decide_eq_true h0
      obtain ⟨b, o, rfl, hbB, hc⟩ := hV.nds.at (by omega)
      have hnd := hc i hi'
      have k1 := hnd.kind; have k2 := hnd.depth; have k3 := hnd.sign; have k4 := hnd.turn; have k5 := hnd.mir; have k6 := hnd.state; have k7 := hnd.mn; have k8 := hnd.mx
      have hkd := kd_at hi'
      generalize l[i] = nd at k1 k2 k3 k4 k5 k6 k7 k8 hkd
      obtain ⟨nk, nd2, ns, nt, nm, nst, nmn, nmx⟩ := nd
      simp only [] at k1 k2 k3 k4 k5 k6 k7 k8 hkd
      have q0 : (i : Int) < (N : Int) := by omega
      cases hlf : leafB nk with
      | true =>
        have hlv : lvs l (f + 1) (i : Int) = [i] := by unfold lvs; rw [if_pos ⟨h0, by show leafB (kd l i) = true; rw [hkd]; exact hlf⟩]; rfl
        have hrg : rgs l (f + 1) (i : Int) ls.length = [] := by unfold rgs; rw [if_pos ⟨h0, by show leafB (kd l i) = true; rw [hkd]; exact hlf⟩]
        rw [hlv, List.length_singleton] at hroom
        rw [hlv, hrg, List.append_nil]
        have HLF : Hid (leafB (kd l i) = true) := by rw [hkd]; exact hid hlf
        have hIL := fun w3 => isLeaf_any nk nd2 ns nt nm nst nmn nmx w3
        rw [hlf] at hIL
        have HIL := hid hIL
        clear hlv hrg hIL hlf hrr
        obtain ⟨r, hr⟩ : ∃ r, r = ls.length := ⟨_, rfl⟩
        rw [← hr] at p2 hroom
        have Hr := hid hr
        have hN2 := hid hN; have HV := hid hV; have HR := hid hR; have HJ := hid hJ; have HT := hid T
        clear hr hN hV hR hJ ih hH T hkd hnd hc
        unfold vArgs
        go_enter Try.func98, Try.ntmps98
        go_wp2_with (first | (go_at_call 85; refine (HIL.out _).mono ?_; rintro e w3 ⟨rfl, hb3⟩; have p4 := (hb3.cell (p := ⟨B + 3, 0, none⟩) (by have := HV.out.size; simp; omega)).trans p2; have p5 := (hb3.cell (p := ⟨B + 1, 0, none⟩) (by have := HV.out.size; simp; omega)).trans p3; have z4 := (hb3.frozen (p := ⟨B + 3, 0, none⟩) (by have := HV.out.size; simp; omega)).trans z2; have HB3 := hid hb3; clear hb3 p1 p2 p3 z2 k1 k2 k3 k4 k5 k6 k7 k8))
        have hvs := (HV.out.keep (KV.of_below HB3.out (by have := HV.out.size; omega))).keep (KV.read hn0 (.int .i64 ((r : Int) + 1)))
        have hj4 := HT.out.read _ _ _ (.int .i64 ((r : Int) + 1)) (HT.out.below _ _ _ _ HJ.out HB3.out) (by have := HV.out.size; have := HB3.out.size; omega)
        have hr4 := one_setCell (u := .int .i64 ((r : Int) + 1)) (HR.out.below HB3.out)
        refine (HT.out.leaf ls rs i _ hj4 hvs hi' HLF.out (by rw [← Hr.out]; omega)).mono ?_
        rintro e w5 ⟨rfl, hj5, hk5, hr5⟩
        have HJ5 := hid hj5
        have HK5 := hid (((KV.of_below HB3.out (by have := HV.out.size; omega)).trans (KV.read hn0 _)).trans hk5)
        have HR5 : Hid (RdN B (ls ++ [i]).length w5) := by
          rw [List.length_append, ← Hr.out]
          exact hr5.trans hr4
        clear hvs hj4 hr4 hj5 hk5 hr5
        go_wp2_with fail
        exact bodyPost_ret (v := .tuple #[]) (by simp [results, Try.results98, go_sem]) rfl ⟨rfl, HJ5.out, HK5.out, HR5.out⟩
      | false =>
        have hno : ¬ (0 ≤ (i : Int) ∧ leafB (kd l (i : Int).toNat) = true) := fun h => by
          have h9 := h.2
          rw [show (i : Int).toNat = i from rfl, hkd, hlf] at h9
          cases h9
        have hlv := lvs_no (f := f) hno
        have hrg := rgs_no (f := f) (r := ls.length) hno
        rw [show (i : Int).toNat = i from rfl, hkd] at hrg
        have hIL := fun w3 => isLeaf_any nk nd2 ns nt nm nst nmn nmx w3
        rw [hlf] at hIL
        have HIL := hid hIL
        obtain ⟨ks, hks⟩ : ∃ ks, ks = ordK l (i : Int) := ⟨_, rfl⟩
        rw [← hks] at hlv hrg
        rw [hlv] at hroom hrg ⊢
        rw [hrg] at hrr ⊢
        obtain ⟨er, her⟩ : ∃ er, er = (if 0 ≤ (i : Int) ∧ nk = 5 then [(i, ls.length, ls.length + (dn l f ks ks.length).length)] else []) := ⟨_, rfl⟩
        rw [← her] at hrr ⊢
        have HER := hid her
        rw [List.length_append] at hrr
        have HRR0 := hid hrr
        have HRR : Hid (rs.length + (rn l f ks ls.length ks.length).length ≤ 1000000) := (show _ ≤ _ by omega)
        clear her hrr
        have hnl : (i : Int) < l.length := by omega
        have HKM := hid fun x (hx : x ∈ ks) => kidsOf_mem (l := l) (by omega) hnl (ordK_mem (by rw [← hks]; exact hx))
        have HKA := hid fun w3 => kids_any (some ⟨b, o, none⟩) N c (i : Int) w3
        have hca := fun b1 b2 w4 h hn => collect_any l (i : Int) hnl (by omega) (by omega) (some ⟨b, o, none⟩) c n0 b1 b2 w4 h hn
        have HKK := hid fun (w3 : World) (hb : Below W.heap.size W w3) => kids_kk (c := c) (node := (i : Int)) (hV.nds.below (hb.mono (by have := hV.size; omega))) (by have := hV.size; have := hb.size; omega)
        have hkl := kidsOf_len hnl
        rw [← hN] at hkl
        have h77 := hH i hi'
        rw [hkd] at h77
        have HRM := hid hroom; have IH := hid ih
        unfold vArgs at IH
        have hn5 := hV.size
        have HN2 := hid hN; have HV := hid hV; have HR := hid hR; have HJ := hid hJ; have HT := hid T; have HKD := hid hkd; have K1 := hid k1
        clear hN hV hR hJ ih hH T hlv hrg hno hroom hIL hlf hkd hnd hc
        by_cases h7 : nk = 7
        · have e7 : (nk == 7) = true := by simp [h7]
          have e5 : (nk == 5) = false := by rw [h7]; rfl
          have hn55 : ¬ nk = 5 := by omega
          have hok : ks = (kidsOf l (i : Int)).tail ++ (kidsOf l (i : Int)).take 1 := by rw [hks]; unfold ordK; exact if_pos ⟨h0, by rw [show (i : Int).toNat = i from rfl, HKD.out]; exact h7⟩
          have HE0 : Hid (er = []) := by rw [HER.out, if_neg (fun h => hn55 h.2)]; exact hid rfl
          have h2k := h77 h7
          have HKL : Hid (ks.length ≤ 1000000) := by
            rw [hok, List.length_append, List.length_tail, List.length_take]
            exact (show _ ≤ 1000000 by omega)
          obtain ⟨kl, hkk0⟩ : ∃ kl, kl = kidsOf l (i : Int) := ⟨_, rfl⟩
          rw [← hkk0] at hca hkl hok h2k
          obtain ⟨a0, tl, rfl⟩ : ∃ a0 tl, kl = a0 :: tl := by
            cases kl with
            | nil => simp at h2k
            | cons a0 tl => exact ⟨a0, tl, rfl⟩
          have hok2 : nz tl ++ [(a0 : Int)] = nz ks := by rw [hok]; simp [nz]
          have hlk : ks.length = tl.length + 1 := by rw [hok]; simp
          rw [List.length_cons] at h2k hkl hca
          obtain ⟨t, ht⟩ : ∃ t, t = tl.length := ⟨_, rfl⟩
          rw [← ht] at h2k hkl hca hlk
          have HCA := hid hca; have HOK := hid hok2; have HT1 := hid ht; have HLK := hid hlk
          clear hca h77 hok hks h7 hkk0 hok2 ht hlk hn55
          unfold vArgs
          go_enter Try.func98, Try.ntmps98
          go_wp2_with (first | (go_at_call 85; refine (HIL.out _).mono ?_; rintro e w3 ⟨rfl, hb3⟩; have p4 := (hb3.cell (p := ⟨B + 3, 0, none⟩) (by simp; omega)).trans p2; have p8 := (hb3.cell (p := ⟨B, 0, none⟩) (by simp; omega)).trans p1; have HB3 := hid hb3; clear hb3 p1 p2 p3 z2 k1 k2 k3 k4 k5 k6 k7 k8) | (go_at_call 66; refine (HKA.out _).mono ?_; rintro e w4 ⟨rfl, hw4⟩; have HW4 := hid hw4; clear hw4))
          have hb4 : Below w3.heap.size w3 w4 := by rw [HW4.out]; exact ((Below.refl _ _).alloc (Nat.le_refl _) _).alloc (by simp) _
          have hz4 : w4.heap.size = w3.heap.size + 2 := by rw [HW4.out]; simp
          have hz3 := HB3.out.size
          have hkk : KK l (some ⟨b, o, none⟩) c (i : Int) n0 w3.heap.size (w3.heap.size + 1) w4 := by rw [HW4.out, HN2.out]; exact HKK.out w3 HB3.out
          refine (HCA.out _ _ w4 hkk (by have := hb4.size; omega)).mono ?_
          rintro e w5 ⟨v5, rfl, ho5, hb5⟩
          obtain ⟨M, hM⟩ : ∃ M, M = w3.heap.size + 2 := ⟨_, rfl⟩
          rw [hz4, ← hM] at ho5
          have HMB : Hid (B + 4 ≤ M) := by rw [hM]; exact (show B + 4 ≤ w3.heap.size + 2 by omega)
          have hb := HB3.out.trans ((hb4.trans (hb5.mono hb4.size)).mono hz3)
          clear p4 p8 hM
          obtain ⟨g5, c5, rfl, hg5, hgl5⟩ := ho5.form (by omega)
          have hcap := own_cap ho5
          have hbx := HV.out.keep (KV.of_below (B := B) hb (Nat.le_trans hn0 (by omega)))
          have p1 := cell_of_one hbx.l_
          rw [← HN2.out] at p1
          have k1 := (hb.cell (p := ⟨b, o + i * 8, none⟩) (by simp; omega)).trans K1.out
          have hcs := ho5.cells (g := g5) rfl
          have hra : Rd w5 w5.heap.size (some ⟨g5, 1, none⟩) (nz tl) := ⟨by simp, fun _ => ⟨_, rfl, hgl5, fun j u hu => by
            have := hcs (j + 1) u (by simpa [nz, ints] using hu)
            rw [Addr.add_lit] at this ⊢
            rw [Nat.zero_add] at this
            rw [Nat.add_comm]
            exact this⟩⟩
          have hrb : Rd w5 w5.heap.size (some ⟨g5, 0, none⟩) [(a0 : Int)] := ⟨by simp, fun _ => ⟨_, rfl, hgl5, fun j u hu => by
            match j, hu with
            | 0, hu =>
              simp [ints] at hu
              subst hu
              exact hcs 0 _ (by simp [nz, ints])⟩⟩
          have htl : (nz tl).length = t := by rw [nz_len, HT1.out]
          have hcc := fun (g : Nat) (W6 : World) (hb6 : Below w5.heap.size w5 W6) h1 h2 h3 => concat_any (nz tl) [(a0 : Int)] (some ⟨g5, 1, none⟩) (some ⟨g5, 0, none⟩) (c5 - 1) c5 g (by omega) (by simp) W6 h1 h2 h3 ((hra.below hb6).more hb6.size) ((hrb.below hb6).more hb6.size)
          rw [htl, HOK.out] at hcc
          rw [show [(a0 : Int)].length = 1 from rfl] at hcc
          have HCC := hid hcc
          have HB5 := hid hb
          have t1 : ¬ c5 = 1 := by omega
          have t2 : ¬ c5 = 0 := by omega
          have t3 : 1 ≤ c5 := by omega
          have t4 : (1 : Int) ≤ (t : Int) + 1 := by omega
          have t5 : (1 : Int) ≤ (c5 : Int) := by omega
          clear hcc hra hrb htl hcs ho5 hb hbx hb4 hb5 hz4 hkk
          go_wp2_with fail
          go_still_tail 4, (by kernel_rfl)
          change wpList _ _ _ _ _ w5.drew
          obtain ⟨w8, hw8⟩ : ∃ w8, w8 = w5.drew := ⟨_, rfl⟩
          rw [← hw8]
          have hb8 : Below w5.heap.size w5 w8 := by rw [hw8]; exact (Below.refl _ _).drew
          clear hw8
          go_wp2_with fail
          refine (HCC.out _ _ (hb8.alloc hb8.size _) (by simp) (by simp [go_sem]) (by simp [go_sem])).mono ?_
          rintro e w7 ⟨v7, rfl, ho7, hb7⟩
          obtain ⟨w9, hw9⟩ : ∃ w9, w9 = w8.alloc (.cells #[.slice (some ⟨g5, 1, none⟩) t (c5 - 1), .slice (some ⟨g5, 0, none⟩) 1 c5] 38) := ⟨_, rfl⟩
          rw [← hw9] at ho7 hb7
          have hb9 : Below w5.heap.size w5 w9 := by rw [hw9]; exact hb8.alloc hb8.size _
          have hb := (HB5.out.trans (hb9.mono HB5.out.size)).trans (hb7.mono (by have := HB5.out.size; have := hb9.size; omega))
          rw [nz_len] at ho7
          obtain ⟨M7, hM7⟩ : ∃ M7, M7 = w9.heap.size := ⟨_, rfl⟩
          rw [← hM7] at ho7
          have HMB7 : Hid (B + 4 ≤ M7) := by rw [hM7]; exact (show B + 4 ≤ w9.heap.size by have := HB5.out.size; have := hb9.size; omega)
          have hkv := KV.of_below (B := B) hb (Nat.le_trans hn0 (by omega))
          have HVL : Hid (VL l (some ⟨b, o, none⟩) c n0 B lf lc rf rc J f ls rs W ks M7 v7 0 w7) := ⟨by
              show J (ls ++ []) (rs ++ []) w7
              rw [List.append_nil, List.append_nil]
              exact HT.out.below _ _ _ _ HJ.out hb, HV.out.keep hkv, by
              show RdN B (ls ++ []).length w7
              rw [List.append_nil]
              exact HR.out.below hb, ho7, hkv⟩
          clear hb8 hb9 hw9 ho7 hb7 hb hkv hM7 p1 k1 t1 t2 t3 t4 t5 hcap hg5 hgl5 h2k hkl
          obtain ⟨A5, c5, rfl⟩ := own_slice HVL.out.own
          obtain ⟨m, hm⟩ : ∃ m, m = ks.length := ⟨_, rfl⟩
          rw [← hm] at HVL ⊢
          have HM := hid hm
          have hm6 : m ≤ 1000000 := by rw [hm]; exact HKL.out
          clear hm
          go_wp2_with fail
          go_loopw [48] (fun jv wr => ∃ j : Nat, j ≤ m ∧ jv = .int .i64 j ∧ Hid (VL l (some ⟨b, o, none⟩) c n0 B lf lc rf rc J f ls rs W ks M7 (.slice A5 m c5) j wr)) (fun jv _ => m - (intOf jv).toNat)
          case atStart => exact ⟨0, by omega, rfl, HVL.out⟩
          case round =>
            obtain ⟨j, hj, rfl, hVL⟩ := hrel
            by_cases hjm : j < m
            · have hjk : j < ks.length := by rw [← HM.out]; exact hjm
              have hrd : Rd wr wr.heap.size A5 (nz ks) := by
                have ho := hVL.out.own
                rw [← HM.out] at ho
                have := Reads.of_own ho
                unfold Rd
                rw [nz_len, ← HM.out]
                exact this
              obtain ⟨g5, o5, rfl, _, hc5⟩ := hrd.at (by rw [nz_len]; omega)
              have p6 := hc5 j (by rw [nz_len]; exact hjk)
              rw [nth_nz hjk] at p6
              have hkm := HKM.out ks[j] (List.getElem_mem hjk)
              have hds := dn_s (l := l) (f := f) hjk
              have hrs := rn_s (l := l) (f := f) (r := ls.length) hjk
              have hdl := dn_le (l := l) (f := f) hjk
              have hrl := rn_le (l := l) (f := f) (r := ls.length) hjk
              have hrr := HRR.out
              have hkg : ks.getD j 0 = ks[j] := by simp [List.getD, hjk]
              rw [hkg] at p6
              have p7 := cell_of_one hVL.out.v_.v_
              simp only [caps] at p7
              have hrm := HRM.out
              have hNl := HN2.out
              have HIH := hid (IH.out (ks[j] : Int) (ls ++ dn l f ks j) (rs ++ rn l f ks ls.length j) wr (by omega) (by omega) (by omega) hVL.out.v_ hVL.out.r_ hVL.out.j_ (by rw [List.length_append]; omega) (by rw [List.length_append, List.length_append]; omega))
              have HNX := hid fun (w6 : World) (h1 : J ((ls ++ dn l f ks j) ++ lvs l f (ks[j] : Int)) ((rs ++ rn l f ks ls.length j) ++ rgs l f (ks[j] : Int) (ls ++ dn l f ks j).length) w6) (h2 : KV n0 B wr w6) (h3 : RdN B ((ls ++ dn l f ks j) ++ lvs l f (ks[j] : Int)).length w6) =>
                show VL l (some ⟨b, o, none⟩) c n0 B lf lc rf rc J f ls rs W ks M7 (.slice (some ⟨g5, o5, none⟩) m c5) (j + 1) w6 from
                  ⟨by rw [hds, hrs, ← List.append_assoc, ← List.append_assoc, ← List.length_append]; exact h1, hVL.out.v_.keep h2, by rw [hds, ← List.append_assoc]; exact h3, own_kv hVL.out.own HMB7.out h2, hVL.out.kv.trans h2⟩
              generalize ks[j] = k at p6 HIH HNX hkm
              have q1 : (j : Int) < (m : Int) := by omega
              clear hkm hds hrs hdl hrl hrr hrm hNl hkg hc5 hrd hjk
              go_wp2_with (first | (go_at_call 98; refine HIH.out.mono ?_; rintro e w6 ⟨rfl, j6, k6, r6⟩; have H6 := hid (HNX.out w6 j6 k6 r6); clear j6 k6 r6 HIH HNX))
              go_roundw
              case rel => exact ⟨j + 1, by omega, by go_num, H6.out⟩
              case measure => simp [intOf]; omega
            · obtain rfl : m = j := by omega
              clear hjm hj
              have hV9 := hVL.out
              rw [HM.out] at hV9
              have k1 := (hV9.kv.bel.cell (p := ⟨b, o + i * 8, none⟩) hbB).trans K1.out
              have p1 := cell_of_one hV9.v_.l_
              rw [← HN2.out] at p1
              have H9 := hid hV9
              clear hV9 hVL
              go_wp2_with fail
              go_end0
              exact ⟨rfl, by rw [HE0.out, List.append_nil]; exact H9.out.j_, H9.out.kv, H9.out.r_⟩
        · have e7 : (nk == 7) = false := by simp [h7]
          have hok : ks = kidsOf l (i : Int) := by rw [hks]; unfold ordK; exact if_neg (fun h => h7 (by have h9 := h.2; rw [show (i : Int).toNat = i from rfl, HKD.out] at h9; exact h9))
          rw [← hok] at hca hkl
          have HKL : Hid (ks.length ≤ 1000000) := Nat.le_trans hkl (by omega)
          have HCA := hid hca
          obtain ⟨p5, hp5⟩ : ∃ p5, p5 = decide (nk = 5) := ⟨_, rfl⟩
          have e5 : (nk == 5) = p5 := by rw [hp5, Bool.eq_iff_iff]; simp
          have HP5 := hid hp5
          clear hca hkl h77 hok hks h7 hp5
          unfold vArgs
          go_enter Try.func98, Try.ntmps98
          go_wp2_with (first | (go_at_call 85; refine (HIL.out _).mono ?_; rintro e w3 ⟨rfl, hb3⟩; have p4 := (hb3.cell (p := ⟨B + 3, 0, none⟩) (by simp; omega)).trans p2; have p8 := (hb3.cell (p := ⟨B, 0, none⟩) (by simp; omega)).trans p1; have HB3 := hid hb3; clear hb3 p1 p2 p3 z2 k1 k2 k3 k4 k5 k6 k7 k8) | (go_at_call 66; refine (HKA.out _).mono ?_; rintro e w4 ⟨rfl, hw4⟩; have HW4 := hid hw4; clear hw4))
          have hb4 : Below w3.heap.size w3 w4 := by rw [HW4.out]; exact ((Below.refl _ _).alloc (Nat.le_refl _) _).alloc (by simp) _
          have hz4 : w4.heap.size = w3.heap.size + 2 := by rw [HW4.out]; simp
          have hz3 := HB3.out.size
          have hkk : KK l (some ⟨b, o, none⟩) c (i : Int) n0 w3.heap.size (w3.heap.size + 1) w4 := by rw [HW4.out, HN2.out]; exact HKK.out w3 HB3.out
          refine (HCA.out _ _ w4 hkk (by have := hb4.size; omega)).mono ?_
          rintro e w5 ⟨v5, rfl, ho5, hb5⟩
          obtain ⟨M, hM⟩ : ∃ M, M = w3.heap.size + 2 := ⟨_, rfl⟩
          rw [hz4, ← hM] at ho5
          have HMB : Hid (B + 4 ≤ M) := by rw [hM]; exact (show B + 4 ≤ w3.heap.size + 2 by omega)
          have hb := HB3.out.trans ((hb4.trans (hb5.mono hb4.size)).mono hz3)
          have hkv := KV.of_below (B := B) hb (Nat.le_trans hn0 (by omega))
          have HVL : Hid (VL l (some ⟨b, o, none⟩) c n0 B lf lc rf rc J f ls rs W ks M v5 0 w5) := ⟨by
              show J (ls ++ []) (rs ++ []) w5
              rw [List.append_nil, List.append_nil]
              exact HT.out.below _ _ _ _ HJ.out hb, HV.out.keep hkv, by
              show RdN B (ls ++ []).length w5
              rw [List.append_nil]
              exact HR.out.below hb, ho5, hkv⟩
          clear hb4 hz4 hz3 hkk ho5 hb5 hb hkv
          clear p4 p8 hM
          have p1 := cell_of_one HVL.out.v_.l_
          rw [← HN2.out] at p1
          have k1 := (HVL.out.kv.bel.cell (p := ⟨b, o + i * 8, none⟩) hbB).trans K1.out
          obtain ⟨A5, c5, rfl⟩ := own_slice HVL.out.own
          obtain ⟨m, hm⟩ : ∃ m, m = ks.length := ⟨_, rfl⟩
          rw [← hm] at HVL ⊢
          have HM := hid hm
          have hm6 : m ≤ 1000000 := by rw [hm]; exact HKL.out
          clear hm
          go_wp2_with fail
          go_loopw [48] (fun jv wr => ∃ j : Nat, j ≤ m ∧ jv = .int .i64 j ∧ Hid (VL l (some ⟨b, o, none⟩) c n0 B lf lc rf rc J f ls rs W ks M (.slice A5 m c5) j wr)) (fun jv _ => m - (intOf jv).toNat)
          case atStart => exact ⟨0, by omega, rfl, HVL.out⟩
          case round =>
            obtain ⟨j, hj, rfl, hVL⟩ := hrel
            by_cases hjm : j < m
            · have hjk : j < ks.length := by rw [← HM.out]; exact hjm
              have hrd : Rd wr wr.heap.size A5 (nz ks) := by
                have ho := hVL.out.own
                rw [← HM.out] at ho
                have := Reads.of_own ho
                unfold Rd
                rw [nz_len, ← HM.out]
                exact this
              obtain ⟨g5, o5, rfl, _, hc5⟩ := hrd.at (by rw [nz_len]; omega)
              have p6 := hc5 j (by rw [nz_len]; exact hjk)
              rw [nth_nz hjk] at p6
              have hkm := HKM.out ks[j] (List.getElem_mem hjk)
              have hds := dn_s (l := l) (f := f) hjk
              have hrs := rn_s (l := l) (f := f) (r := ls.length) hjk
              have hdl := dn_le (l := l) (f := f) hjk
              have hrl := rn_le (l := l) (f := f) (r := ls.length) hjk
              have hrr := HRR.out
              have hkg : ks.getD j 0 = ks[j] := by simp [List.getD, hjk]
              rw [hkg] at p6
              have p7 := cell_of_one hVL.out.v_.v_
              simp only [caps] at p7
              have hrm := HRM.out
              have hNl := HN2.out
              have HIH := hid (IH.out (ks[j] : Int) (ls ++ dn l f ks j) (rs ++ rn l f ks ls.length j) wr (by omega) (by omega) (by omega) hVL.out.v_ hVL.out.r_ hVL.out.j_ (by rw [List.length_append]; omega) (by rw [List.length_append, List.length_append]; omega))
              have HNX := hid fun (w6 : World) (h1 : J ((ls ++ dn l f ks j) ++ lvs l f (ks[j] : Int)) ((rs ++ rn l f ks ls.length j) ++ rgs l f (ks[j] : Int) (ls ++ dn l f ks j).length) w6) (h2 : KV n0 B wr w6) (h3 : RdN B ((ls ++ dn l f ks j) ++ lvs l f (ks[j] : Int)).length w6) =>
                show VL l (some ⟨b, o, none⟩) c n0 B lf lc rf rc J f ls rs W ks M (.slice (some ⟨g5, o5, none⟩) m c5) (j + 1) w6 from
                  ⟨by rw [hds, hrs, ← List.append_assoc, ← List.append_assoc, ← List.length_append]; exact h1, hVL.out.v_.keep h2, by rw [hds, ← List.append_assoc]; exact h3, own_kv hVL.out.own HMB.out h2, hVL.out.kv.trans h2⟩
              generalize ks[j] = k at p6 HIH HNX hkm
              have q1 : (j : Int) < (m : Int) := by omega
              clear hkm hds hrs hdl hrl hrr hrm hNl hkg hc5 hrd hjk
              go_wp2_with (first | (go_at_call 98; refine HIH.out.mono ?_; rintro e w6 ⟨rfl, j6, k6, r6⟩; have H6 := hid (HNX.out w6 j6 k6 r6); clear j6 k6 r6 HIH HNX))
              go_roundw
              case rel => exact ⟨j + 1, by omega, by go_num, H6.out⟩
              case measure => simp [intOf]; omega
            · obtain rfl : m = j := by omega
              clear hjm hj
              have hV9 := hVL.out
              rw [HM.out] at hV9
              have k1 := (hV9.kv.bel.cell (p := ⟨b, o + i * 8, none⟩) hbB).trans K1.out
              have p1 := cell_of_one hV9.v_.l_
              rw [← HN2.out] at p1
              have hp5 := HP5.out
              cases p5 with
              | false =>
                have h9 : ¬ nk = 5 := of_decide_eq_false hp5.symm
                have HE0 : Hid (er = []) := by rw [HER.out, if_neg (fun h => h9 h.2)]; exact hid rfl
                have H9 := hid hV9
                clear hV9 hVL h9 hp5
                go_wp2_with fail
                go_end0
                exact ⟨rfl, by rw [HE0.out, List.append_nil]; exact H9.out.j_, H9.out.kv, H9.out.r_⟩
              | true =>
                have h9 : nk = 5 := of_decide_eq_true hp5.symm
                obtain ⟨ct, hct⟩ : ∃ ct, ct = (ls ++ dn l f ks ks.length).length := ⟨_, rfl⟩
                have hr9 := hV9.r_
                unfold RdN at hr9
                rw [← hct] at hr9
                have p9 := cell_of_one hr9
                have p10 := cell_of_one hV9.v_.g_
                have hlt := HRM.out
                have hrr9 : (rs ++ rn l f ks ls.length ks.length).length < 1000000 := by
                  have h10 := HRR0.out
                  rw [HER.out, if_pos ⟨h0, h9⟩, List.length_singleton] at h10
                  rw [List.length_append]
                  omega
                have hrg := HT.out.ring _ _ i ls.length wr hV9.j_ hV9.v_ hi' (by rw [HKD.out]; exact h9) (by rw [List.length_append]; omega) (by rw [List.length_append]; exact hlt) hrr9
                rw [← hct] at hrg
                have HRG := hid hrg
                have H9 := hid hV9
                have HCT := hid hct
                have HR9 := hid hr9
                have HE1 : Hid (er = [(i, ls.length, ct)]) := by rw [HER.out, if_pos ⟨h0, h9⟩, hct, List.length_append]; exact hid rfl
                clear hV9 hVL h9 hp5 hrg hlt hct hr9 hrr9
                go_wp2_with fail
                refine HRG.out.mono ?_
                rintro e w6 ⟨rfl, j6, k6, r6⟩
                have J6 := hid j6
                have K6 := hid (H9.out.kv.trans k6)
                have R6 : Hid (RdN B (ls ++ dn l f ks ks.length).length w6) := by rw [← HCT.out]; exact r6.trans HR9.out
                clear j6 k6 r6 HRG
                go_wp2_with fail
                go_end0
                exact ⟨rfl, by rw [HE1.out, ← List.append_assoc]; exact J6.out, K6.out, R6.out⟩
    · have hno : ¬ (0 ≤ node ∧ leafB (kd l node.toNat) = true) := fun h => h0 h.1
      have hlv := lvs_no (f := f) hno
      have hrg := rgs_no (f := f) (r := ls.length) hno
      rw [if_neg (fun h => h0 h.1), List.append_nil] at hrg
      have hok : ordK l node = kidsOf l node := if_neg (fun h => h0 h.1)
      have d0 : decide ((0 : Int) ≤ node) = false := decide_eq_false h0
      obtain ⟨ks, hks⟩ : ∃ ks, ks = ordK l node := ⟨_, rfl⟩
      rw [← hks] at hlv hrg
      rw [hlv] at hroom ⊢
      rw [hrg] at hrr ⊢
      have HRR := hid hrr
      have hnl : node < l.length := by omega
      have HKM := hid fun x (hx : x ∈ ks) => kidsOf_mem (l := l) (by omega) hnl (ordK_mem (by rw [← hks]; exact hx))
      have HKL : Hid (ks.length ≤ 1000000) := by rw [hks, hok]; exact Nat.le_trans (kidsOf_len hnl) (by omega)
      have HKA := hid fun w3 => kids_any A N c node w3
      have hca := fun b1 b2 w4 h hn => collect_any l node hnl (by omega) (by omega) A c n0 b1 b2 w4 h hn
      rw [← hok, ← hks] at hca
      have HCA := hid hca
      have HKK := hid (kids_kk (c := c) (node := node) hV.nds (Nat.le_trans hn0 (by have := hV.size; omega)))
      have HRM := hid hroom; have IH := hid ih
      unfold vArgs at IH
      have HN2 := hid hN; have HV := hid hV; have HR := hid hR; have HJ := hid hJ; have HT := hid T
      clear hN hV hR hJ ih hH T hlv hrg hno hks hok hca hroom h0 hrr
      unfold vArgs
      obtain ⟨M, hM⟩ : ∃ M, M = W.heap.size + 2 := ⟨_, rfl⟩
      have HMB : Hid (B + 4 ≤ M) := by have := HV.out.size; rw [hM]; exact (show B + 4 ≤ W.heap.size + 2 by omega)
      go_enter Try.func98, Try.ntmps98
      go_wp2_with (first | (go_at_call 66; refine (HKA.out _).mono ?_; rintro e w4 ⟨rfl, hw4⟩; have HW4 := hid hw4; clear hw4))
      have hb4 : Below W.heap.size W w4 := by rw [HW4.out]; exact ((Below.refl _ _).alloc (Nat.le_refl _) _).alloc (by simp) _
      have hz4 : w4.heap.size = M := by rw [HW4.out, hM]; simp
      have hkk : KK l A c node n0 W.heap.size (W.heap.size + 1) w4 := by rw [HW4.out, HN2.out]; exact HKK.out
      refine (HCA.out _ _ w4 hkk (Nat.le_trans hn0 (by have := HV.out.size; have := hb4.size; omega))).mono ?_
      rintro e w5 ⟨v5, rfl, ho5, hb5⟩
      rw [hz4] at ho5
      have hb := hb4.trans (hb5.mono hb4.size)
      have hkv := KV.of_below (B := B) hb (Nat.le_trans hn0 (by have := HV.out.size; omega))
      have HVL : Hid (VL l A c n0 B lf lc rf rc J f ls rs W ks M v5 0 w5) := ⟨by
          show J (ls ++ []) (rs ++ []) w5
          rw [List.append_nil, List.append_nil]
          exact HT.out.below _ _ _ _ HJ.out hb, HV.out.keep hkv, by
          show RdN B (ls ++ []).length w5
          rw [List.append_nil]
          exact HR.out.below hb, ho5, hkv⟩
      clear hb4 hz4 hkk ho5 hb5 hb hkv p1 p2 z2 p3 hM
      obtain ⟨A5, c5, rfl⟩ := own_slice HVL.out.own
      obtain ⟨m, hm⟩ : ∃ m, m = ks.length := ⟨_, rfl⟩
      rw [← hm] at HVL ⊢
      have HM := hid hm
      have hm6 : m ≤ 1000000 := by rw [hm]; exact HKL.out
      clear hm
      go_wp2_with fail
      go_loopw [48] (fun jv wr => ∃ j : Nat, j ≤ m ∧ jv = .int .i64 j ∧ Hid (VL l A c n0 B lf lc rf rc J f ls rs W ks M (.slice A5 m c5) j wr)) (fun jv _ => m - (intOf jv).toNat)
      case atStart => exact ⟨0, by omega, rfl, HVL.out⟩
      case round =>
        obtain ⟨j, hj, rfl, hVL⟩ := hrel
        by_cases hjm : j < m
        · have hjk : j < ks.length := by rw [← HM.out]; exact hjm
          have hrd : Rd wr wr.heap.size A5 (nz ks) := by
            have ho := hVL.out.own
            rw [← HM.out] at ho
            have := Reads.of_own ho
            unfold Rd
            rw [nz_len, ← HM.out]
            exact this
          obtain ⟨g5, o5, rfl, _, hc5⟩ := hrd.at (by rw [nz_len]; omega)
          have p6 := hc5 j (by rw [nz_len]; exact hjk)
          rw [nth_nz hjk] at p6
          have hkm := HKM.out ks[j] (List.getElem_mem hjk)
          have hds := dn_s (l := l) (f := f) hjk
          have hrs := rn_s (l := l) (f := f) (r := ls.length) hjk
          have hdl := dn_le (l := l) (f := f) hjk
          have hrl := rn_le (l := l) (f := f) (r := ls.length) hjk
          have hrr := HRR.out
          have hkg : ks.getD j 0 = ks[j] := by simp [List.getD, hjk]
          rw [hkg] at p6
          have p7 := cell_of_one hVL.out.v_.v_
          simp only [caps] at p7
          have hrm := HRM.out
          have hNl := HN2.out
          have HIH := hid (IH.out (ks[j] : Int) (ls ++ dn l f ks j) (rs ++ rn l f ks ls.length j) wr (by omega) (by omega) (by omega) hVL.out.v_ hVL.out.r_ hVL.out.j_ (by rw [List.length_append]; omega) (by rw [List.length_append, List.length_append]; omega))
          have HNX := hid fun (w6 : World) (h1 : J ((ls ++ dn l f ks j) ++ lvs l f (ks[j] : Int)) ((rs ++ rn l f ks ls.length j) ++ rgs l f (ks[j] : Int) (ls ++ dn l f ks j).length) w6) (h2 : KV n0 B wr w6) (h3 : RdN B ((ls ++ dn l f ks j) ++ lvs l f (ks[j] : Int)).length w6) =>
            show VL l A c n0 B lf lc rf rc J f ls rs W ks M (.slice (some ⟨g5, o5, none⟩) m c5) (j + 1) w6 from
              ⟨by rw [hds, hrs, ← List.append_assoc, ← List.append_assoc, ← List.length_append]; exact h1, hVL.out.v_.keep h2, by rw [hds, ← List.append_assoc]; exact h3, own_kv hVL.out.own HMB.out h2, hVL.out.kv.trans h2⟩
          generalize ks[j] = k at p6 HIH HNX hkm
          have q1 : (j : Int) < (m : Int) := by omega
          clear hkm hds hrs hdl hrl hrr hrm hNl hkg hc5 hrd hjk
          go_wp2_with (first | (go_at_call 98; refine HIH.out.mono ?_; rintro e w6 ⟨rfl, j6, k6, r6⟩; have H6 := hid (HNX.out w6 j6 k6 r6); clear j6 k6 r6 HIH HNX))
          go_roundw
          case rel => exact ⟨j + 1, by omega, by go_num, H6.out⟩
          case measure => simp [intOf]; omega
        · obtain rfl : m = j := by omega
          clear hjm hj
          have hV9 := hVL.out
          rw [HM.out] at hV9
          have H9 := hid hV9
          clear hV9 hVL
          go_wp2_with fail
          go_end0
          exact ⟨rfl, H9.out.j_, H9.out.kv, H9.out.r_⟩
end Go.Proofs.Ytddbnggficlcfaa
