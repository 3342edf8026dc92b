/- WALK: groups.order: the leaves of a text, as they are read, and its rings. -/
import Derived.Test.YtimblabaeclhpaaGreatKids
namespace Go.Proofs.YtimblabaeclhpaaGreat
open Go.RowKit Go.Shelf
def kd (l : List Nd) (i : Nat) : Int := match l[i]? with
  | some n => n.kind
  | none => 0
theorem kd_at {l : List Nd} {i : Nat} (h : i < l.length) : kd l i = l[i].kind := by
  unfold kd
  rw [List.getElem?_eq_getElem h]
def leafB (k : Int) : Bool := decide (k = 1) || decide (k = 6)
set_option maxRecDepth 100000 in
theorem isLeaf_any (k d s t : Int) (m : Bool) (st mn mx : Int) (w : World) :
    Calls Tryz.prog 54 #[.agg #[.int .i64 k, .int .i64 d, .int .i64 s, .int .i64 t, .bool m, .int .i64 st, .int .i64 mn, .int .i64 mx]] w fun e w' => e = .returned (.bool (leafB k)) ∧ Below w.heap.size w w' := by
  by_cases h1 : k = 1
  · have e1 : (k == 1) = true := by simp [h1]
    have HX : Hid (leafB k = true) := by rw [h1]; exact hid rfl
    clear h1
    go_enter Tryz.func54, Tryz.ntmps54
    go_wp2_with fail
    go_ret
    exact ⟨by rw [HX.out]; rfl, (Below.refl _ _).alloc (Nat.le_refl _) _⟩
  · have e1 : (k == 1) = false := by simp [h1]
    by_cases h2 : k = 6
    · have e2 : (k == 6) = true := by simp [h2]
      have HX : Hid (leafB k = true) := by rw [h2]; exact hid rfl
      clear h1 h2
      go_enter Tryz.func54, Tryz.ntmps54
      go_wp2_with fail
      go_ret
      exact ⟨by rw [HX.out]; rfl, (Below.refl _ _).alloc (Nat.le_refl _) _⟩
    · have e2 : (k == 6) = false := by simp [h2]
      have HX : Hid (leafB k = false) := by unfold leafB; rw [decide_eq_false h1, decide_eq_false h2]; exact hid rfl
      clear h1 h2
      go_enter Tryz.func54, Tryz.ntmps54
      go_wp2_with fail
      go_ret
      exact ⟨by rw [HX.out]; rfl, (Below.refl _ _).alloc (Nat.le_refl _) _⟩
/-- The kids of a node as they are read: those of an Honour from the second one on, the first one last. -/
def ordK (l : List Nd) (node : Int) : List Nat := if 0 ≤ node ∧ kd l node.toNat = 7 then (kidsOf l node).tail ++ (kidsOf l node).take 1 else kidsOf l node
def lvs (l : List Nd) : Nat → Int → List Nat
  | 0, _ => []
  | f + 1, node => if 0 ≤ node ∧ leafB (kd l node.toNat) = true then [node.toNat] else (ordK l node).flatMap fun k : Nat => lvs l f (k : Int)
def rgsL (rg : Nat → Nat → List (Nat × Nat × Nat)) (lv : Nat → Nat) : List Nat → Nat → List (Nat × Nat × Nat)
  | [], _ => []
  | k :: ks, r => rg k r ++ rgsL rg lv ks (r + lv k)
def rgs (l : List Nd) : Nat → Int → Nat → List (Nat × Nat × Nat)
  | 0, _, _ => []
  | f + 1, node, r => if 0 ≤ node ∧ leafB (kd l node.toNat) = true then [] else
    rgsL (fun (k : Nat) r => rgs l f (k : Int) r) (fun k : Nat => (lvs l f (k : Int)).length) (ordK l node) r ++ (if 0 ≤ node ∧ kd l node.toNat = 5 then [(node.toNat, r, r + (lvs l (f + 1) node).length)] else [])
/-- The captured cells of the closure visit, five boxes from B on. -/
def caps (B : Nat) : Array Value := #[.pointer (some ⟨B, 0, none⟩), .pointer (some ⟨B + 3, 0, none⟩), .pointer (some ⟨B + 1, 0, none⟩), .pointer (some ⟨B + 4, 0, none⟩), .pointer (some ⟨B + 2, 0, none⟩)]
def vArgs (node : Int) (B : Nat) : Array Value := #[.int .i64 node, .pointer (some ⟨B, 0, none⟩), .pointer (some ⟨B + 3, 0, none⟩), .pointer (some ⟨B + 1, 0, none⟩), .pointer (some ⟨B + 4, 0, none⟩), .pointer (some ⟨B + 2, 0, none⟩)]
structure VF (l : List Nd) (A : Option Addr) (c n0 B lf : Nat) (lc : Array Value) (rf : Nat) (rc : Array Value) (W : World) : Prop where
  l_ : W.heap[B]? = some (.cells #[.slice A l.length c] 28 (0, 0))
  f_ : W.heap[B + 1]? = some (.cells #[.func (.func lf) #[] lc] 119 (0, 0))
  g_ : W.heap[B + 2]? = some (.cells #[.func (.func rf) #[] rc] 120 (0, 0))
  v_ : W.heap[B + 4]? = some (.cells #[.func (.func 65) #[] (caps B)] 119 (0, 0))
  nds : Nds W n0 A l
/-- How many leaves were read. -/
def RdN (B r : Nat) (W : World) : Prop := W.heap[B + 3]? = some (.cells #[.int .i64 r] 3 (0, 0))
/-- What stays: all below n₀, the five boxes but that of the number of leaves, and every row of numbers. -/
structure KV (n0 B : Nat) (W W' : World) : Prop where
  bel : Below n0 W W'
  own : ∀ (k : Nat) (o : Obj), k ≠ B + 3 → ((B ≤ k ∧ k < B + 5) ∨ ∃ (cs : Array Value) (fz : Nat × Nat), o = Obj.cells cs 3 fz) → W.heap[k]? = some o → W'.heap[k]? = some o
theorem KV.refl (n0 B : Nat) (W : World) : KV n0 B W W := ⟨Below.refl _ _, fun _ _ _ _ h => h⟩
theorem KV.trans {n0 B : Nat} {a b c : World} (h : KV n0 B a b) (k : KV n0 B b c) : KV n0 B a c := ⟨h.bel.trans k.bel, fun i o h1 h2 h3 => k.own i o h1 h2 (h.own i o h1 h2 h3)⟩
theorem KV.of_below {n0 B : Nat} {W W' : World} (h : Below W.heap.size W W') (hn : n0 ≤ W.heap.size) : KV n0 B W W' := ⟨h.mono hn, fun k _ _ _ hk => (h.block k (lt_of_block hk)).trans hk⟩
theorem KV.read {n0 B : Nat} {W : World} (hn : n0 ≤ B) (v : Value) : KV n0 B W (W.setCell ⟨B + 3, 0, none⟩ v) :=
  ⟨(Below.refl _ _).setCell (by simp; omega) v, fun k o h1 _ h => by rw [Below.heap_setCell _ _ _ _ h1]; exact h⟩
theorem VF.keep {l : List Nd} {A : Option Addr} {c n0 B lf : Nat} {lc : Array Value} {rf : Nat} {rc : Array Value} {W W' : World} (h : VF l A c n0 B lf lc rf rc W) (k : KV n0 B W W') : VF l A c n0 B lf lc rf rc W' :=
  ⟨k.own _ _ (by omega) (.inl ⟨by omega, by omega⟩) h.l_, k.own _ _ (by omega) (.inl ⟨by omega, by omega⟩) h.f_, k.own _ _ (by omega) (.inl ⟨by omega, by omega⟩) h.g_, k.own _ _ (by omega) (.inl ⟨by omega, by omega⟩) h.v_, h.nds.below k.bel⟩
theorem VF.size {l : List Nd} {A : Option Addr} {c n0 B lf : Nat} {lc : Array Value} {rf : Nat} {rc : Array Value} {W : World} (h : VF l A c n0 B lf lc rf rc W) : B + 5 ≤ W.heap.size := lt_of_block h.v_
theorem RdN.below {B r : Nat} {W W' : World} (h : RdN B r W) (hb : Below W.heap.size W W') : RdN B r W' := (hb.block _ (lt_of_block h)).trans h
/-- A row of numbers that stands whatever is read meanwhile. -/
theorem own_kv {n0 B M n : Nat} {W W' : World} {v : Value} {xs : List Value} (h : W.ownsRow M 3 1 v n xs) (hM : B + 4 ≤ M) (k : KV n0 B W W') : W'.ownsRow M 3 1 v n xs := by
  obtain ⟨h1, h2⟩ := h
  refine ⟨h1, ?_⟩
  rcases h2 with h2 | ⟨g, cap, cur, hv, hg, hh, r⟩
  · exact Or.inl h2
  · exact Or.inr ⟨g, cap, cur, hv, hg, k.own g _ (by omega) (.inr ⟨_, _, rfl⟩) hh, r⟩
theorem kidsR_mem {l : List Nd} {to : Nat} : ∀ (f k x : Nat), x ∈ kidsR l to f k → k ≤ x ∧ x < to
  | 0, _, _, h => by cases h
  | f + 1, k, x, h => by
    unfold kidsR at h
    split at h
    · rename_i hk
      rcases List.mem_cons.1 h with e | h
      · omega
      · have := kidsR_mem f _ x h
        have := endOf_gt l k
        omega
    · cases h
theorem kidsOf_mem {l : List Nd} {node : Int} (h1 : -1 ≤ node) (h2 : node < l.length) {x : Nat} (h : x ∈ kidsOf l node) : node < x ∧ x < l.length := by
  have h3 := kidsR_mem _ _ _ h
  unfold kidsFr kidsTo at h3
  split at h3
  · have := endOf_le (l := l) (i := node.toNat) (by omega)
    omega
  · omega
theorem ordK_mem {l : List Nd} {node : Int} {x : Nat} (h : x ∈ ordK l node) : x ∈ kidsOf l node := by
  unfold ordK at h
  split at h
  · rcases List.mem_append.1 h with h | h
    · exact List.mem_of_mem_tail h
    · exact List.mem_of_mem_take h
  · exact h
theorem nth_nz {x : List Nat} {i : Nat} (h : i < x.length) : nth (nz x) i = (x.getD i 0 : Int) := by
  unfold nth nz
  simp [List.getD, h]
def dn (l : List Nd) (f : Nat) (ks : List Nat) (j : Nat) : List Nat := (ks.take j).flatMap fun k : Nat => lvs l f (k : Int)
def rn (l : List Nd) (f : Nat) (ks : List Nat) (r j : Nat) : List (Nat × Nat × Nat) := rgsL (fun (k : Nat) r => rgs l f (k : Int) r) (fun k : Nat => (lvs l f (k : Int)).length) (ks.take j) r
theorem dn_s {l : List Nd} {f : Nat} {ks : List Nat} {j : Nat} (h : j < ks.length) : dn l f ks (j + 1) = dn l f ks j ++ lvs l f (ks[j] : Int) := by
  unfold dn
  rw [List.take_add_one, List.getElem?_eq_getElem h, Option.toList_some, List.flatMap_append]
  simp
theorem rgsL_app {rg : Nat → Nat → List (Nat × Nat × Nat)} {lv : Nat → List Nat} : ∀ (xs ys : List Nat) (r : Nat), rgsL rg (fun k => (lv k).length) (xs ++ ys) r = rgsL rg (fun k => (lv k).length) xs r ++ rgsL rg (fun k => (lv k).length) ys (r + (xs.flatMap lv).length)
  | [], ys, r => by simp [rgsL]
  | a :: xs, ys, r => by
    rw [List.cons_append, rgsL, rgsL, rgsL_app xs ys, List.append_assoc, List.flatMap_cons, List.length_append, Nat.add_assoc]
theorem rn_s {l : List Nd} {f : Nat} {ks : List Nat} {r j : Nat} (h : j < ks.length) : rn l f ks r (j + 1) = rn l f ks r j ++ rgs l f (ks[j] : Int) (r + (dn l f ks j).length) := by
  unfold rn dn
  rw [List.take_add_one, List.getElem?_eq_getElem h, Option.toList_some, rgsL_app (lv := fun k : Nat => lvs l f (k : Int))]
  congr 1
  simp [rgsL]
theorem dn_le {l : List Nd} {f : Nat} {ks : List Nat} {j : Nat} (h : j < ks.length) : (dn l f ks j).length + (lvs l f (ks[j] : Int)).length ≤ (dn l f ks ks.length).length := by
  have e : dn l f ks ks.length = dn l f ks (j + 1) ++ (ks.drop (j + 1)).flatMap fun k : Nat => lvs l f (k : Int) := by
    unfold dn
    rw [← List.flatMap_append, List.take_append_drop, List.take_length]
  rw [e, dn_s h, List.length_append, List.length_append]
  omega
theorem rn_le {l : List Nd} {f : Nat} {ks : List Nat} {r j : Nat} (h : j < ks.length) : (rn l f ks r j).length + (rgs l f (ks[j] : Int) (r + (dn l f ks j).length)).length ≤ (rn l f ks r ks.length).length := by
  have e : rn l f ks r ks.length = rn l f ks r (j + 1) ++ rgsL (fun (k : Nat) r => rgs l f (k : Int) r) (fun k : Nat => (lvs l f (k : Int)).length) (ks.drop (j + 1)) (r + ((ks.take (j + 1)).flatMap fun k : Nat => lvs l f (k : Int)).length) := by
    unfold rn
    rw [← rgsL_app (lv := fun k : Nat => lvs l f (k : Int)), List.take_append_drop, List.take_length]
  rw [e, rn_s h, List.length_append, List.length_append]
  omega
theorem lvs_no {l : List Nd} {f : Nat} {node : Int} (h : ¬ (0 ≤ node ∧ leafB (kd l node.toNat) = true)) : lvs l (f + 1) node = dn l f (ordK l node) (ordK l node).length := by
  unfold lvs dn
  rw [if_neg h, List.take_length]
theorem rgs_no {l : List Nd} {f : Nat} {node : Int} {r : Nat} (h : ¬ (0 ≤ node ∧ leafB (kd l node.toNat) = true)) : rgs l (f + 1) node r = rn l f (ordK l node) r (ordK l node).length ++ (if 0 ≤ node ∧ kd l node.toNat = 5 then [(node.toNat, r, r + (lvs l (f + 1) node).length)] else []) := by
  rw [rgs, if_neg h]
  unfold rn
  rw [List.take_length]
/-- What the loop over the kids keeps. -/
structure VL (l : List Nd) (A : Option Addr) (c n0 B lf : Nat) (lc : Array Value) (rf : Nat) (rc : Array Value) (J : List Nat → List (Nat × Nat × Nat) → World → Prop) (f : Nat) (ls : List Nat) (rs : List (Nat × Nat × Nat)) (W : World) (ks : List Nat) (M : Nat) (v : Value) (j : Nat) (wr : World) : Prop where
  j_ : J (ls ++ dn l f ks j) (rs ++ rn l f ks ls.length j) wr
  v_ : VF l A c n0 B lf lc rf rc wr
  r_ : RdN B (ls ++ dn l f ks j).length wr
  own : wr.ownsRow M 3 1 v ks.length (ints (nz ks))
  kv : KV n0 B W wr
/-- What the two functions that are told do, and what the told state stands. -/
structure Told (l : List Nd) (A : Option Addr) (c n0 B lf : Nat) (lc : Array Value) (rf : Nat) (rc : Array Value) (J : List Nat → List (Nat × Nat × Nat) → World → Prop) : Prop where
  below : ∀ ls rs W W', J ls rs W → Below W.heap.size W W' → J ls rs W'
  read : ∀ ls rs W v, J ls rs W → B + 5 ≤ W.heap.size → J ls rs (W.setCell ⟨B + 3, 0, none⟩ v)
  leaf : ∀ ls rs (i : Nat) W, J ls rs W → VF l A c n0 B lf lc rf rc W → i < l.length → leafB (kd l i) = true → ls.length < 1000000 →
    Calls Tryz.prog lf (#[.int .i64 (i : Int)] ++ lc) W fun e w' => e = .returned (.tuple #[]) ∧ J (ls ++ [i]) rs w' ∧ KV n0 B W w' ∧ w'.heap[B + 3]? = W.heap[B + 3]?
  ring : ∀ ls rs (i fr : Nat) W, J ls rs W → VF l A c n0 B lf lc rf rc W → i < l.length → kd l i = 5 → fr ≤ ls.length → ls.length ≤ 1000000 → rs.length < 1000000 →
    Calls Tryz.prog rf (#[.int .i64 (i : Int), .int .i64 (fr : Int), .int .i64 (ls.length : Int)] ++ rc) W fun e w' => e = .returned (.tuple #[]) ∧ J ls (rs ++ [(i, fr, ls.length)]) w' ∧ KV n0 B W w' ∧ w'.heap[B + 3]? = W.heap[B + 3]?
  lent : ∀ args w, (callFunc lf args).run Tryz.prog w = .ok (.enter lf args) w
  rent : ∀ args w, (callFunc rf args).run Tryz.prog w = .ok (.enter rf args) w
set_option maxRecDepth 100000 in
set_option maxHeartbeats 4000000 in
theorem visit_any (l : List Nd) (hl : l.length ≤ 1000000) (hH : ∀ i : Nat, i < l.length → kd l i = 7 → 2 ≤ (kidsOf l (i : Int)).length) (A : Option Addr) (c n0 B lf : Nat) (lc : Array Value) (rf : Nat) (rc : Array Value) (hn0 : n0 ≤ B)
    (J : List Nat → List (Nat × Nat × Nat) → World → Prop) (T : Told l A c n0 B lf lc rf rc J) :
    ∀ (f : Nat) (node : Int) (ls : List Nat) (rs : List (Nat × Nat × Nat)) (W : World), -1 ≤ node → node < l.length → (l.length : Int) - node ≤ f → VF l A c n0 B lf lc rf rc W → RdN B ls.length W → J ls rs W → ls.length + (lvs l f node).length ≤ 1000000 → rs.length + (rgs l f node ls.length).length ≤ 1000000 →
      Calls Tryz.prog 65 (vArgs node B) W fun e w' => e = .returned (.tuple #[]) ∧ J (ls ++ lvs l f node) (rs ++ rgs l f node ls.length) w' ∧ KV n0 B W w' ∧ RdN B (ls ++ lvs l f node).length w' := by
  intro f
  induction f with
  | zero => intro node ls rs W h1 h2 h3; omega
  | succ f ih =>
    intro node ls rs W h1 h2 h3 hV hR hJ hroom hrr
    have p1 := cell_of_one hV.l_
    have p2 := cell_of_one hR
    have z2 := free_of_one hR
    have p3 := cell_of_one hV.f_
    obtain ⟨N, hN⟩ : ∃ N, N = l.length := ⟨_, rfl⟩
    rw [← hN] at p1 h2 h3 hl
    have lent := T.lent
    have rent := T.rent
    by_cases h0 : 0 ≤ node
    · obtain ⟨i, rfl⟩ : ∃ i : Nat, node = i := ⟨node.toNat, by omega⟩
      have hi : i < N := by omega
      have hi' : i < l.length := by omega
      have d0 : decide ((0 : Int) ≤ (i : Int)) = true := decide_eq_true h0
      obtain ⟨b, o, rfl, hbB, hc⟩ := hV.nds.at (by omega)
      have hnd := hc i hi'
      have k1 := hnd.kind; have k2 := hnd.depth; have k3 := hnd.sign; have k4 := hnd.turn; have k5 := hnd.mir; have k6 := hnd.state; have k7 := hnd.mn; have k8 := hnd.mx
      have hkd := kd_at hi'
      generalize l[i] = nd at k1 k2 k3 k4 k5 k6 k7 k8 hkd
      obtain ⟨nk, nd2, ns, nt, nm, nst, nmn, nmx⟩ := nd
      simp only [] at k1 k2 k3 k4 k5 k6 k7 k8 hkd
      have q0 : (i : Int) < (N : Int) := by omega
      cases hlf : leafB nk with
      | true =>
        have hlv : lvs l (f + 1) (i : Int) = [i] := by unfold lvs; rw [if_pos ⟨h0, by show leafB (kd l i) = true; rw [hkd]; exact hlf⟩]; rfl
        have hrg : rgs l (f + 1) (i : Int) ls.length = [] := by unfold rgs; rw [if_pos ⟨h0, by show leafB (kd l i) = true; rw [hkd]; exact hlf⟩]
        rw [hlv, List.length_singleton] at hroom
        rw [hlv, hrg, List.append_nil]
        have HLF : Hid (leafB (kd l i) = true) := by rw [hkd]; exact hid hlf
        have hIL := fun w3 => isLeaf_any nk nd2 ns nt nm nst nmn nmx w3
        rw [hlf] at hIL
        have HIL := hid hIL
        clear hlv hrg hIL hlf hrr
        obtain ⟨r, hr⟩ : ∃ r, r = ls.length := ⟨_, rfl⟩
        rw [← hr] at p2 hroom
        have Hr := hid hr
        have hN2 := hid hN; have HV := hid hV; have HR := hid hR; have HJ := hid hJ; have HT := hid T
        clear hr hN hV hR hJ ih hH T hkd hnd hc
        unfold vArgs
        go_enter Tryz.func65, Tryz.ntmps65
        go_wp2_with (first | (go_at_call 54; refine (HIL.out _).mono ?_; rintro e w3 ⟨rfl, hb3⟩; have p4 := (hb3.cell (p := ⟨B + 3, 0, none⟩) (by have := HV.out.size; simp; omega)).trans p2; have p5 := (hb3.cell (p := ⟨B + 1, 0, none⟩) (by have := HV.out.size; simp; omega)).trans p3; have z4 := (hb3.frozen (p := ⟨B + 3, 0, none⟩) (by have := HV.out.size; simp; omega)).trans z2; have HB3 := hid hb3; clear hb3 p1 p2 p3 z2 k1 k2 k3 k4 k5 k6 k7 k8))
        have hvs := (HV.out.keep (KV.of_below HB3.out (by have := HV.out.size; omega))).keep (KV.read hn0 (.int .i64 ((r : Int) + 1)))
        have hj4 := HT.out.read _ _ _ (.int .i64 ((r : Int) + 1)) (HT.out.below _ _ _ _ HJ.out HB3.out) (by have := HV.out.size; have := HB3.out.size; omega)
        have hr4 := one_setCell (u := .int .i64 ((r : Int) + 1)) (HR.out.below HB3.out)
        refine (HT.out.leaf ls rs i _ hj4 hvs hi' HLF.out (by rw [← Hr.out]; omega)).mono ?_
        rintro e w5 ⟨rfl, hj5, hk5, hr5⟩
        have HJ5 := hid hj5
        have HK5 := hid (((KV.of_below HB3.out (by have := HV.out.size; omega)).trans (KV.read hn0 _)).trans hk5)
        have HR5 : Hid (RdN B (ls ++ [i]).length w5) := by
          rw [List.length_append, ← Hr.out]
          exact hr5.trans hr4
        clear hvs hj4 hr4 hj5 hk5 hr5
        go_wp2_with fail
        exact bodyPost_ret (v := .tuple #[]) (by simp [results, Tryz.results65, go_sem]) rfl ⟨rfl, HJ5.out, HK5.out, HR5.out⟩
      | false =>
        have hno : ¬ (0 ≤ (i : Int) ∧ leafB (kd l (i : Int).toNat) = true) := fun h => by
          have h9 := h.2
          rw [show (i : Int).toNat = i from rfl, hkd, hlf] at h9
          cases h9
        have hlv := lvs_no (f := f) hno
        have hrg := rgs_no (f := f) (r := ls.length) hno
        rw [show (i : Int).toNat = i from rfl, hkd] at hrg
        have hIL := fun w3 => isLeaf_any nk nd2 ns nt nm nst nmn nmx w3
        rw [hlf] at hIL
        have HIL := hid hIL
        obtain ⟨ks, hks⟩ : ∃ ks, ks = ordK l (i : Int) := ⟨_, rfl⟩
        rw [← hks] at hlv hrg
        rw [hlv] at hroom hrg ⊢
        rw [hrg] at hrr ⊢
        obtain ⟨er, her⟩ : ∃ er, er = (if 0 ≤ (i : Int) ∧ nk = 5 then [(i, ls.length, ls.length + (dn l f ks ks.length).length)] else []) := ⟨_, rfl⟩
        rw [← her] at hrr ⊢
        have HER := hid her
        rw [List.length_append] at hrr
        have HRR0 := hid hrr
        have HRR : Hid (rs.length + (rn l f ks ls.length ks.length).length ≤ 1000000) := (show _ ≤ _ by omega)
        clear her hrr
        have hnl : (i : Int) < l.length := by omega
        have HKM := hid fun x (hx : x ∈ ks) => kidsOf_mem (l := l) (by omega) hnl (ordK_mem (by rw [← hks]; exact hx))
        have HKA := hid fun w3 => kids_any (some ⟨b, o, none⟩) N c (i : Int) w3
        have hca := fun b1 b2 w4 h hn => collect_any l (i : Int) hnl (by omega) (by omega) (some ⟨b, o, none⟩) c n0 b1 b2 w4 h hn
        have HKK := hid fun (w3 : World) (hb : Below W.heap.size W w3) => kids_kk (c := c) (node := (i : Int)) (hV.nds.below (hb.mono (by have := hV.size; omega))) (by have := hV.size; have := hb.size; omega)
        have hkl := kidsOf_len hnl
        rw [← hN] at hkl
        have h77 := hH i hi'
        rw [hkd] at h77
        have HRM := hid hroom; have IH := hid ih
        unfold vArgs at IH
        have hn5 := hV.size
        have HN2 := hid hN; have HV := hid hV; have HR := hid hR; have HJ := hid hJ; have HT := hid T; have HKD := hid hkd; have K1 := hid k1
        clear hN hV hR hJ ih hH T hlv hrg hno hroom hIL hlf hkd hnd hc
        by_cases h7 : nk = 7
        · have e7 : (nk == 7) = true := by simp [h7]
          have e5 : (nk == 5) = false := by rw [h7]; rfl
          have hn55 : ¬ nk = 5 := by omega
          have hok : ks = (kidsOf l (i : Int)).tail ++ (kidsOf l (i : Int)).take 1 := by rw [hks]; unfold ordK; exact if_pos ⟨h0, by rw [show (i : Int).toNat = i from rfl, HKD.out]; exact h7⟩
          have HE0 : Hid (er = []) := by rw [HER.out, if_neg (fun h => hn55 h.2)]; exact hid rfl
          have h2k := h77 h7
          have HKL : Hid (ks.length ≤ 1000000) := by
            rw [hok, List.length_append, List.length_tail, List.length_take]
            exact (show _ ≤ 1000000 by omega)
          obtain ⟨kl, hkk0⟩ : ∃ kl, kl = kidsOf l (i : Int) := ⟨_, rfl⟩
          rw [← hkk0] at hca hkl hok h2k
          obtain ⟨a0, tl, rfl⟩ : ∃ a0 tl, kl = a0 :: tl := by
            cases kl with
            | nil => simp at h2k
            | cons a0 tl => exact ⟨a0, tl, rfl⟩
          have hok2 : nz tl ++ [(a0 : Int)] = nz ks := by rw [hok]; simp [nz]
          have hlk : ks.length = tl.length + 1 := by rw [hok]; simp
          rw [List.length_cons] at h2k hkl hca
          obtain ⟨t, ht⟩ : ∃ t, t = tl.length := ⟨_, rfl⟩
          rw [← ht] at h2k hkl hca hlk
          have HCA := hid hca; have HOK := hid hok2; have HT1 := hid ht; have HLK := hid hlk
          clear hca h77 hok hks h7 hkk0 hok2 ht hlk hn55
          unfold vArgs
          go_enter Tryz.func65, Tryz.ntmps65
          go_wp2_with (first | (go_at_call 54; refine (HIL.out _).mono ?_; rintro e w3 ⟨rfl, hb3⟩; have p4 := (hb3.cell (p := ⟨B + 3, 0, none⟩) (by simp; omega)).trans p2; have p8 := (hb3.cell (p := ⟨B, 0, none⟩) (by simp; omega)).trans p1; have HB3 := hid hb3; clear hb3 p1 p2 p3 z2 k1 k2 k3 k4 k5 k6 k7 k8) | (go_at_call 55; refine (HKA.out _).mono ?_; rintro e w4 ⟨rfl, hw4⟩; have HW4 := hid hw4; clear hw4))
          have hb4 : Below w3.heap.size w3 w4 := by rw [HW4.out]; exact ((Below.refl _ _).alloc (Nat.le_refl _) _).alloc (by simp) _
          have hz4 : w4.heap.size = w3.heap.size + 2 := by rw [HW4.out]; simp
          have hz3 := HB3.out.size
          have hkk : KK l (some ⟨b, o, none⟩) c (i : Int) n0 w3.heap.size (w3.heap.size + 1) w4 := by rw [HW4.out, HN2.out]; exact HKK.out w3 HB3.out
          refine (HCA.out _ _ w4 hkk (by have := hb4.size; omega)).mono ?_
          rintro e w5 ⟨v5, rfl, ho5, hb5⟩
          obtain ⟨M, hM⟩ : ∃ M, M = w3.heap.size + 2 := ⟨_, rfl⟩
          rw [hz4, ← hM] at ho5
          have HMB : Hid (B + 4 ≤ M) := by rw [hM]; exact (show B + 4 ≤ w3.heap.size + 2 by omega)
          have hb := HB3.out.trans ((hb4.trans (hb5.mono hb4.size)).mono hz3)
          clear p4 p8 hM
          obtain ⟨g5, c5, rfl, hg5, hgl5⟩ := ho5.form (by omega)
          have hcap := own_cap ho5
          have hbx := HV.out.keep (KV.of_below (B := B) hb (Nat.le_trans hn0 (by omega)))
          have p1 := cell_of_one hbx.l_
          rw [← HN2.out] at p1
          have k1 := (hb.cell (p := ⟨b, o + i * 8, none⟩) (by simp; omega)).trans K1.out
          have hcs := ho5.cells (g := g5) rfl
          have hra : Rd w5 w5.heap.size (some ⟨g5, 1, none⟩) (nz tl) := ⟨by simp, fun _ => ⟨_, rfl, hgl5, fun j u hu => by
            have := hcs (j + 1) u (by simpa [nz, ints] using hu)
            rw [Addr.add_lit] at this ⊢
            rw [Nat.zero_add] at this
            rw [Nat.add_comm]
            exact this⟩⟩
          have hrb : Rd w5 w5.heap.size (some ⟨g5, 0, none⟩) [(a0 : Int)] := ⟨by simp, fun _ => ⟨_, rfl, hgl5, fun j u hu => by
            match j, hu with
            | 0, hu =>
              simp [ints] at hu
              subst hu
              exact hcs 0 _ (by simp [nz, ints])⟩⟩
          have htl : (nz tl).length = t := by rw [nz_len, HT1.out]
          have hcc := fun (g : Nat) (W6 : World) (hb6 : Below w5.heap.size w5 W6) h1 h2 h3 => concat_any (nz tl) [(a0 : Int)] (some ⟨g5, 1, none⟩) (some ⟨g5, 0, none⟩) (c5 - 1) c5 g (by omega) (by simp) W6 h1 h2 h3 ((hra.below hb6).more hb6.size) ((hrb.below hb6).more hb6.size)
          rw [htl, HOK.out] at hcc
          rw [show [(a0 : Int)].length = 1 from rfl] at hcc
          have HCC := hid hcc
          have HB5 := hid hb
          have t1 : ¬ c5 = 1 := by omega
          have t2 : ¬ c5 = 0 := by omega
          have t3 : 1 ≤ c5 := by omega
          have t4 : (1 : Int) ≤ (t : Int) + 1 := by omega
          have t5 : (1 : Int) ≤ (c5 : Int) := by omega
          clear hcc hra hrb htl hcs ho5 hb hbx hb4 hb5 hz4 hkk
          go_wp2_with fail
          go_still_tail 4, (by kernel_rfl)
          change wpList _ _ _ _ _ w5.drew
          obtain ⟨w8, hw8⟩ : ∃ w8, w8 = w5.drew := ⟨_, rfl⟩
          rw [← hw8]
          have hb8 : Below w5.heap.size w5 w8 := by rw [hw8]; exact (Below.refl _ _).drew
          clear hw8
          go_wp2_with fail
          refine (HCC.out _ _ (hb8.alloc hb8.size _) (by simp) (by simp [go_sem]) (by simp [go_sem])).mono ?_
          rintro e w7 ⟨v7, rfl, ho7, hb7⟩
          obtain ⟨w9, hw9⟩ : ∃ w9, w9 = w8.alloc (.cells #[.slice (some ⟨g5, 1, none⟩) t (c5 - 1), .slice (some ⟨g5, 0, none⟩) 1 c5] 148) := ⟨_, rfl⟩
          rw [← hw9] at ho7 hb7
          have hb9 : Below w5.heap.size w5 w9 := by rw [hw9]; exact hb8.alloc hb8.size _
          have hb := (HB5.out.trans (hb9.mono HB5.out.size)).trans (hb7.mono (by have := HB5.out.size; have := hb9.size; omega))
          rw [nz_len] at ho7
          obtain ⟨M7, hM7⟩ : ∃ M7, M7 = w9.heap.size := ⟨_, rfl⟩
          rw [← hM7] at ho7
          have HMB7 : Hid (B + 4 ≤ M7) := by rw [hM7]; exact (show B + 4 ≤ w9.heap.size by have := HB5.out.size; have := hb9.size; omega)
          have hkv := KV.of_below (B := B) hb (Nat.le_trans hn0 (by omega))
          have HVL : Hid (VL l (some ⟨b, o, none⟩) c n0 B lf lc rf rc J f ls rs W ks M7 v7 0 w7) := ⟨by
              show J (ls ++ []) (rs ++ []) w7
              rw [List.append_nil, List.append_nil]
              exact HT.out.below _ _ _ _ HJ.out hb, HV.out.keep hkv, by
              show RdN B (ls ++ []).length w7
              rw [List.append_nil]
              exact HR.out.below hb, ho7, hkv⟩
          clear hb8 hb9 hw9 ho7 hb7 hb hkv hM7 p1 k1 t1 t2 t3 t4 t5 hcap hg5 hgl5 h2k hkl
          obtain ⟨A5, c5, rfl⟩ := own_slice HVL.out.own
          obtain ⟨m, hm⟩ : ∃ m, m = ks.length := ⟨_, rfl⟩
          rw [← hm] at HVL ⊢
          have HM := hid hm
          have hm6 : m ≤ 1000000 := by rw [hm]; exact HKL.out
          clear hm
          go_wp2_with fail
          go_loopw [48] (fun jv wr => ∃ j : Nat, j ≤ m ∧ jv = .int .i64 j ∧ Hid (VL l (some ⟨b, o, none⟩) c n0 B lf lc rf rc J f ls rs W ks M7 (.slice A5 m c5) j wr)) (fun jv _ => m - (intOf jv).toNat)
          case atStart => exact ⟨0, by omega, rfl, HVL.out⟩
          case round =>
            obtain ⟨j, hj, rfl, hVL⟩ := hrel
            by_cases hjm : j < m
            · have hjk : j < ks.length := by rw [← HM.out]; exact hjm
              have hrd : Rd wr wr.heap.size A5 (nz ks) := by
                have ho := hVL.out.own
                rw [← HM.out] at ho
                have := Reads.of_own ho
                unfold Rd
                rw [nz_len, ← HM.out]
                exact this
              obtain ⟨g5, o5, rfl, _, hc5⟩ := hrd.at (by rw [nz_len]; omega)
              have p6 := hc5 j (by rw [nz_len]; exact hjk)
              rw [nth_nz hjk] at p6
              have hkm := HKM.out ks[j] (List.getElem_mem hjk)
              have hds := dn_s (l := l) (f := f) hjk
              have hrs := rn_s (l := l) (f := f) (r := ls.length) hjk
              have hdl := dn_le (l := l) (f := f) hjk
              have hrl := rn_le (l := l) (f := f) (r := ls.length) hjk
              have hrr := HRR.out
              have hkg : ks.getD j 0 = ks[j] := by simp [List.getD, hjk]
              rw [hkg] at p6
              have p7 := cell_of_one hVL.out.v_.v_
              simp only [caps] at p7
              have hrm := HRM.out
              have hNl := HN2.out
              have HIH := hid (IH.out (ks[j] : Int) (ls ++ dn l f ks j) (rs ++ rn l f ks ls.length j) wr (by omega) (by omega) (by omega) hVL.out.v_ hVL.out.r_ hVL.out.j_ (by rw [List.length_append]; omega) (by rw [List.length_append, List.length_append]; omega))
              have HNX := hid fun (w6 : World) (h1 : J ((ls ++ dn l f ks j) ++ lvs l f (ks[j] : Int)) ((rs ++ rn l f ks ls.length j) ++ rgs l f (ks[j] : Int) (ls ++ dn l f ks j).length) w6) (h2 : KV n0 B wr w6) (h3 : RdN B ((ls ++ dn l f ks j) ++ lvs l f (ks[j] : Int)).length w6) =>
                show VL l (some ⟨b, o, none⟩) c n0 B lf lc rf rc J f ls rs W ks M7 (.slice (some ⟨g5, o5, none⟩) m c5) (j + 1) w6 from
                  ⟨by rw [hds, hrs, ← List.append_assoc, ← List.append_assoc, ← List.length_append]; exact h1, hVL.out.v_.keep h2, by rw [hds, ← List.append_assoc]; exact h3, own_kv hVL.out.own HMB7.out h2, hVL.out.kv.trans h2⟩
              generalize ks[j] = k at p6 HIH HNX hkm
              have q1 : (j : Int) < (m : Int) := by omega
              clear hkm hds hrs hdl hrl hrr hrm hNl hkg hc5 hrd hjk
              go_wp2_with (first | (go_at_call 65; refine HIH.out.mono ?_; rintro e w6 ⟨rfl, j6, k6, r6⟩; have H6 := hid (HNX.out w6 j6 k6 r6); clear j6 k6 r6 HIH HNX))
              go_roundw
              case rel => exact ⟨j + 1, by omega, by go_num, H6.out⟩
              case measure => simp [intOf]; omega
            · obtain rfl : m = j := by omega
              clear hjm hj
              have hV9 := hVL.out
              rw [HM.out] at hV9
              have k1 := (hV9.kv.bel.cell (p := ⟨b, o + i * 8, none⟩) hbB).trans K1.out
              have p1 := cell_of_one hV9.v_.l_
              rw [← HN2.out] at p1
              have H9 := hid hV9
              clear hV9 hVL
              go_wp2_with fail
              go_end0
              exact ⟨rfl, by rw [HE0.out, List.append_nil]; exact H9.out.j_, H9.out.kv, H9.out.r_⟩
        · have e7 : (nk == 7) = false := by simp [h7]
          have hok : ks = kidsOf l (i : Int) := by rw [hks]; unfold ordK; exact if_neg (fun h => h7 (by have h9 := h.2; rw [show (i : Int).toNat = i from rfl, HKD.out] at h9; exact h9))
          rw [← hok] at hca hkl
          have HKL : Hid (ks.length ≤ 1000000) := Nat.le_trans hkl (by omega)
          have HCA := hid hca
          obtain ⟨p5, hp5⟩ : ∃ p5, p5 = decide (nk = 5) := ⟨_, rfl⟩
          have e5 : (nk == 5) = p5 := by rw [hp5, Bool.eq_iff_iff]; simp
          have HP5 := hid hp5
          clear hca hkl h77 hok hks h7 hp5
          unfold vArgs
          go_enter Tryz.func65, Tryz.ntmps65
          go_wp2_with (first | (go_at_call 54; refine (HIL.out _).mono ?_; rintro e w3 ⟨rfl, hb3⟩; have p4 := (hb3.cell (p := ⟨B + 3, 0, none⟩) (by simp; omega)).trans p2; have p8 := (hb3.cell (p := ⟨B, 0, none⟩) (by simp; omega)).trans p1; have HB3 := hid hb3; clear hb3 p1 p2 p3 z2 k1 k2 k3 k4 k5 k6 k7 k8) | (go_at_call 55; refine (HKA.out _).mono ?_; rintro e w4 ⟨rfl, hw4⟩; have HW4 := hid hw4; clear hw4))
          have hb4 : Below w3.heap.size w3 w4 := by rw [HW4.out]; exact ((Below.refl _ _).alloc (Nat.le_refl _) _).alloc (by simp) _
          have hz4 : w4.heap.size = w3.heap.size + 2 := by rw [HW4.out]; simp
          have hz3 := HB3.out.size
          have hkk : KK l (some ⟨b, o, none⟩) c (i : Int) n0 w3.heap.size (w3.heap.size + 1) w4 := by rw [HW4.out, HN2.out]; exact HKK.out w3 HB3.out
          refine (HCA.out _ _ w4 hkk (by have := hb4.size; omega)).mono ?_
          rintro e w5 ⟨v5, rfl, ho5, hb5⟩
          obtain ⟨M, hM⟩ : ∃ M, M = w3.heap.size + 2 := ⟨_, rfl⟩
          rw [hz4, ← hM] at ho5
          have HMB : Hid (B + 4 ≤ M) := by rw [hM]; exact (show B + 4 ≤ w3.heap.size + 2 by omega)
          have hb := HB3.out.trans ((hb4.trans (hb5.mono hb4.size)).mono hz3)
          have hkv := KV.of_below (B := B) hb (Nat.le_trans hn0 (by omega))
          have HVL : Hid (VL l (some ⟨b, o, none⟩) c n0 B lf lc rf rc J f ls rs W ks M v5 0 w5) := ⟨by
              show J (ls ++ []) (rs ++ []) w5
              rw [List.append_nil, List.append_nil]
              exact HT.out.below _ _ _ _ HJ.out hb, HV.out.keep hkv, by
              show RdN B (ls ++ []).length w5
              rw [List.append_nil]
              exact HR.out.below hb, ho5, hkv⟩
          clear hb4 hz4 hz3 hkk ho5 hb5 hb hkv
          clear p4 p8 hM
          have p1 := cell_of_one HVL.out.v_.l_
          rw [← HN2.out] at p1
          have k1 := (HVL.out.kv.bel.cell (p := ⟨b, o + i * 8, none⟩) hbB).trans K1.out
          obtain ⟨A5, c5, rfl⟩ := own_slice HVL.out.own
          obtain ⟨m, hm⟩ : ∃ m, m = ks.length := ⟨_, rfl⟩
          rw [← hm] at HVL ⊢
          have HM := hid hm
          have hm6 : m ≤ 1000000 := by rw [hm]; exact HKL.out
          clear hm
          go_wp2_with fail
          go_loopw [48] (fun jv wr => ∃ j : Nat, j ≤ m ∧ jv = .int .i64 j ∧ Hid (VL l (some ⟨b, o, none⟩) c n0 B lf lc rf rc J f ls rs W ks M (.slice A5 m c5) j wr)) (fun jv _ => m - (intOf jv).toNat)
          case atStart => exact ⟨0, by omega, rfl, HVL.out⟩
          case round =>
            obtain ⟨j, hj, rfl, hVL⟩ := hrel
            by_cases hjm : j < m
            · have hjk : j < ks.length := by rw [← HM.out]; exact hjm
              have hrd : Rd wr wr.heap.size A5 (nz ks) := by
                have ho := hVL.out.own
                rw [← HM.out] at ho
                have := Reads.of_own ho
                unfold Rd
                rw [nz_len, ← HM.out]
                exact this
              obtain ⟨g5, o5, rfl, _, hc5⟩ := hrd.at (by rw [nz_len]; omega)
              have p6 := hc5 j (by rw [nz_len]; exact hjk)
              rw [nth_nz hjk] at p6
              have hkm := HKM.out ks[j] (List.getElem_mem hjk)
              have hds := dn_s (l := l) (f := f) hjk
              have hrs := rn_s (l := l) (f := f) (r := ls.length) hjk
              have hdl := dn_le (l := l) (f := f) hjk
              have hrl := rn_le (l := l) (f := f) (r := ls.length) hjk
              have hrr := HRR.out
              have hkg : ks.getD j 0 = ks[j] := by simp [List.getD, hjk]
              rw [hkg] at p6
              have p7 := cell_of_one hVL.out.v_.v_
              simp only [caps] at p7
              have hrm := HRM.out
              have hNl := HN2.out
              have HIH := hid (IH.out (ks[j] : Int) (ls ++ dn l f ks j) (rs ++ rn l f ks ls.length j) wr (by omega) (by omega) (by omega) hVL.out.v_ hVL.out.r_ hVL.out.j_ (by rw [List.length_append]; omega) (by rw [List.length_append, List.length_append]; omega))
              have HNX := hid fun (w6 : World) (h1 : J ((ls ++ dn l f ks j) ++ lvs l f (ks[j] : Int)) ((rs ++ rn l f ks ls.length j) ++ rgs l f (ks[j] : Int) (ls ++ dn l f ks j).length) w6) (h2 : KV n0 B wr w6) (h3 : RdN B ((ls ++ dn l f ks j) ++ lvs l f (ks[j] : Int)).length w6) =>
                show VL l (some ⟨b, o, none⟩) c n0 B lf lc rf rc J f ls rs W ks M (.slice (some ⟨g5, o5, none⟩) m c5) (j + 1) w6 from
                  ⟨by rw [hds, hrs, ← List.append_assoc, ← List.append_assoc, ← List.length_append]; exact h1, hVL.out.v_.keep h2, by rw [hds, ← List.append_assoc]; exact h3, own_kv hVL.out.own HMB.out h2, hVL.out.kv.trans h2⟩
              generalize ks[j] = k at p6 HIH HNX hkm
              have q1 : (j : Int) < (m : Int) := by omega
              clear hkm hds hrs hdl hrl hrr hrm hNl hkg hc5 hrd hjk
              go_wp2_with (first | (go_at_call 65; refine HIH.out.mono ?_; rintro e w6 ⟨rfl, j6, k6, r6⟩; have H6 := hid (HNX.out w6 j6 k6 r6); clear j6 k6 r6 HIH HNX))
              go_roundw
              case rel => exact ⟨j + 1, by omega, by go_num, H6.out⟩
              case measure => simp [intOf]; omega
            · obtain rfl : m = j := by omega
              clear hjm hj
              have hV9 := hVL.out
              rw [HM.out] at hV9
              have k1 := (hV9.kv.bel.cell (p := ⟨b, o + i * 8, none⟩) hbB).trans K1.out
              have p1 := cell_of_one hV9.v_.l_
              rw [← HN2.out] at p1
              have hp5 := HP5.out
              cases p5 with
              | false =>
                have h9 : ¬ nk = 5 := of_decide_eq_false hp5.symm
                have HE0 : Hid (er = []) := by rw [HER.out, if_neg (fun h => h9 h.2)]; exact hid rfl
                have H9 := hid hV9
                clear hV9 hVL h9 hp5
                go_wp2_with fail
                go_end0
                exact ⟨rfl, by rw [HE0.out, List.append_nil]; exact H9.out.j_, H9.out.kv, H9.out.r_⟩
              | true =>
                have h9 : nk = 5 := of_decide_eq_true hp5.symm
                obtain ⟨ct, hct⟩ : ∃ ct, ct = (ls ++ dn l f ks ks.length).length := ⟨_, rfl⟩
                have hr9 := hV9.r_
                unfold RdN at hr9
                rw [← hct] at hr9
                have p9 := cell_of_one hr9
                have p10 := cell_of_one hV9.v_.g_
                have hlt := HRM.out
                have hrr9 : (rs ++ rn l f ks ls.length ks.length).length < 1000000 := by
                  have h10 := HRR0.out
                  rw [HER.out, if_pos ⟨h0, h9⟩, List.length_singleton] at h10
                  rw [List.length_append]
                  omega
                have hrg := HT.out.ring _ _ i ls.length wr hV9.j_ hV9.v_ hi' (by rw [HKD.out]; exact h9) (by rw [List.length_append]; omega) (by rw [List.length_append]; exact hlt) hrr9
                rw [← hct] at hrg
                have HRG := hid hrg
                have H9 := hid hV9
                have HCT := hid hct
                have HR9 := hid hr9
                have HE1 : Hid (er = [(i, ls.length, ct)]) := by rw [HER.out, if_pos ⟨h0, h9⟩, hct, List.length_append]; exact hid rfl
                clear hV9 hVL h9 hp5 hrg hlt hct hr9 hrr9
                go_wp2_with fail
                refine HRG.out.mono ?_
                rintro e w6 ⟨rfl, j6, k6, r6⟩
                have J6 := hid j6
                have K6 := hid (H9.out.kv.trans k6)
                have R6 : Hid (RdN B (ls ++ dn l f ks ks.length).length w6) := by rw [← HCT.out]; exact r6.trans HR9.out
                clear j6 k6 r6 HRG
                go_wp2_with fail
                go_end0
                exact ⟨rfl, by rw [HE1.out, ← List.append_assoc]; exact J6.out, K6.out, R6.out⟩
    · have hno : ¬ (0 ≤ node ∧ leafB (kd l node.toNat) = true) := fun h => h0 h.1
      have hlv := lvs_no (f := f) hno
      have hrg := rgs_no (f := f) (r := ls.length) hno
      rw [if_neg (fun h => h0 h.1), List.append_nil] at hrg
      have hok : ordK l node = kidsOf l node := if_neg (fun h => h0 h.1)
      have d0 : decide ((0 : Int) ≤ node) = false := decide_eq_false h0
      obtain ⟨ks, hks⟩ : ∃ ks, ks = ordK l node := ⟨_, rfl⟩
      rw [← hks] at hlv hrg
      rw [hlv] at hroom ⊢
      rw [hrg] at hrr ⊢
      have HRR := hid hrr
      have hnl : node < l.length := by omega
      have HKM := hid fun x (hx : x ∈ ks) => kidsOf_mem (l := l) (by omega) hnl (ordK_mem (by rw [← hks]; exact hx))
      have HKL : Hid (ks.length ≤ 1000000) := by rw [hks, hok]; exact Nat.le_trans (kidsOf_len hnl) (by omega)
      have HKA := hid fun w3 => kids_any A N c node w3
      have hca := fun b1 b2 w4 h hn => collect_any l node hnl (by omega) (by omega) A c n0 b1 b2 w4 h hn
      rw [← hok, ← hks] at hca
      have HCA := hid hca
      have HKK := hid (kids_kk (c := c) (node := node) hV.nds (Nat.le_trans hn0 (by have := hV.size; omega)))
      have HRM := hid hroom; have IH := hid ih
      unfold vArgs at IH
      have HN2 := hid hN; have HV := hid hV; have HR := hid hR; have HJ := hid hJ; have HT := hid T
      clear hN hV hR hJ ih hH T hlv hrg hno hks hok hca hroom h0 hrr
      unfold vArgs
      obtain ⟨M, hM⟩ : ∃ M, M = W.heap.size + 2 := ⟨_, rfl⟩
      have HMB : Hid (B + 4 ≤ M) := by have := HV.out.size; rw [hM]; exact (show B + 4 ≤ W.heap.size + 2 by omega)
      go_enter Tryz.func65, Tryz.ntmps65
      go_wp2_with (first | (go_at_call 55; refine (HKA.out _).mono ?_; rintro e w4 ⟨rfl, hw4⟩; have HW4 := hid hw4; clear hw4))
      have hb4 : Below W.heap.size W w4 := by rw [HW4.out]; exact ((Below.refl _ _).alloc (Nat.le_refl _) _).alloc (by simp) _
      have hz4 : w4.heap.size = M := by rw [HW4.out, hM]; simp
      have hkk : KK l A c node n0 W.heap.size (W.heap.size + 1) w4 := by rw [HW4.out, HN2.out]; exact HKK.out
      refine (HCA.out _ _ w4 hkk (Nat.le_trans hn0 (by have := HV.out.size; have := hb4.size; omega))).mono ?_
      rintro e w5 ⟨v5, rfl, ho5, hb5⟩
      rw [hz4] at ho5
      have hb := hb4.trans (hb5.mono hb4.size)
      have hkv := KV.of_below (B := B) hb (Nat.le_trans hn0 (by have := HV.out.size; omega))
      have HVL : Hid (VL l A c n0 B lf lc rf rc J f ls rs W ks M v5 0 w5) := ⟨by
          show J (ls ++ []) (rs ++ []) w5
          rw [List.append_nil, List.append_nil]
          exact HT.out.below _ _ _ _ HJ.out hb, HV.out.keep hkv, by
          show RdN B (ls ++ []).length w5
          rw [List.append_nil]
          exact HR.out.below hb, ho5, hkv⟩
      clear hb4 hz4 hkk ho5 hb5 hb hkv p1 p2 z2 p3 hM
      obtain ⟨A5, c5, rfl⟩ := own_slice HVL.out.own
      obtain ⟨m, hm⟩ : ∃ m, m = ks.length := ⟨_, rfl⟩
      rw [← hm] at HVL ⊢
      have HM := hid hm
      have hm6 : m ≤ 1000000 := by rw [hm]; exact HKL.out
      clear hm
      go_wp2_with fail
      go_loopw [48] (fun jv wr => ∃ j : Nat, j ≤ m ∧ jv = .int .i64 j ∧ Hid (VL l A c n0 B lf lc rf rc J f ls rs W ks M (.slice A5 m c5) j wr)) (fun jv _ => m - (intOf jv).toNat)
      case atStart => exact ⟨0, by omega, rfl, HVL.out⟩
      case round =>
        obtain ⟨j, hj, rfl, hVL⟩ := hrel
        by_cases hjm : j < m
        · have hjk : j < ks.length := by rw [← HM.out]; exact hjm
          have hrd : Rd wr wr.heap.size A5 (nz ks) := by
            have ho := hVL.out.own
            rw [← HM.out] at ho
            have := Reads.of_own ho
            unfold Rd
            rw [nz_len, ← HM.out]
            exact this
          obtain ⟨g5, o5, rfl, _, hc5⟩ := hrd.at (by rw [nz_len]; omega)
          have p6 := hc5 j (by rw [nz_len]; exact hjk)
          rw [nth_nz hjk] at p6
          have hkm := HKM.out ks[j] (List.getElem_mem hjk)
          have hds := dn_s (l := l) (f := f) hjk
          have hrs := rn_s (l := l) (f := f) (r := ls.length) hjk
          have hdl := dn_le (l := l) (f := f) hjk
          have hrl := rn_le (l := l) (f := f) (r := ls.length) hjk
          have hrr := HRR.out
          have hkg : ks.getD j 0 = ks[j] := by simp [List.getD, hjk]
          rw [hkg] at p6
          have p7 := cell_of_one hVL.out.v_.v_
          simp only [caps] at p7
          have hrm := HRM.out
          have hNl := HN2.out
          have HIH := hid (IH.out (ks[j] : Int) (ls ++ dn l f ks j) (rs ++ rn l f ks ls.length j) wr (by omega) (by omega) (by omega) hVL.out.v_ hVL.out.r_ hVL.out.j_ (by rw [List.length_append]; omega) (by rw [List.length_append, List.length_append]; omega))
          have HNX := hid fun (w6 : World) (h1 : J ((ls ++ dn l f ks j) ++ lvs l f (ks[j] : Int)) ((rs ++ rn l f ks ls.length j) ++ rgs l f (ks[j] : Int) (ls ++ dn l f ks j).length) w6) (h2 : KV n0 B wr w6) (h3 : RdN B ((ls ++ dn l f ks j) ++ lvs l f (ks[j] : Int)).length w6) =>
            show VL l A c n0 B lf lc rf rc J f ls rs W ks M (.slice (some ⟨g5, o5, none⟩) m c5) (j + 1) w6 from
              ⟨by rw [hds, hrs, ← List.append_assoc, ← List.append_assoc, ← List.length_append]; exact h1, hVL.out.v_.keep h2, by rw [hds, ← List.append_assoc]; exact h3, own_kv hVL.out.own HMB.out h2, hVL.out.kv.trans h2⟩
          generalize ks[j] = k at p6 HIH HNX hkm
          have q1 : (j : Int) < (m : Int) := by omega
          clear hkm hds hrs hdl hrl hrr hrm hNl hkg hc5 hrd hjk
          go_wp2_with (first | (go_at_call 65; refine HIH.out.mono ?_; rintro e w6 ⟨rfl, j6, k6, r6⟩; have H6 := hid (HNX.out w6 j6 k6 r6); clear j6 k6 r6 HIH HNX))
          go_roundw
          case rel => exact ⟨j + 1, by omega, by go_num, H6.out⟩
          case measure => simp [intOf]; omega
        · obtain rfl : m = j := by omega
          clear hjm hj
          have hV9 := hVL.out
          rw [HM.out] at hV9
          have H9 := hid hV9
          clear hV9 hVL
          go_wp2_with fail
          go_end0
          exact ⟨rfl, H9.out.j_, H9.out.kv, H9.out.r_⟩
end Go.Proofs.YtimblabaeclhpaaGreat

/- WALK: groups.order as a whole. -/
namespace Go.Proofs.YtimblabaeclhpaaGreat
open Go.RowKit Go.Shelf
def span (l : List Nd) (node : Int) : Nat := if 0 ≤ node then endOf l node.toNat - node.toNat else l.length
theorem endR_stops {l : List Nd} {d : Int} {t : Nat} (ht : ¬ (t < l.length ∧ d < dep l t)) : ∀ (f k : Nat), k ≤ t → endR l d f k ≤ t
  | 0, k, h => h
  | f + 1, k, h => by
    unfold endR
    split
    · rename_i h2
      by_cases e : k = t
      · subst e; exact absurd h2 ht
      · exact endR_stops ht f (k + 1) (by omega)
    · exact h
theorem endR_low {l : List Nd} {d : Int} : ∀ (f k j : Nat), k ≤ j → j < endR l d f k → d < dep l j
  | 0, k, j, h1, h2 => by unfold endR at h2; omega
  | f + 1, k, j, h1, h2 => by
    unfold endR at h2
    split at h2
    · rename_i h3
      by_cases e : j = k
      · subst e; exact h3.2
      · exact endR_low f (k + 1) j (by omega) h2
    · omega
theorem endR_at' {l : List Nd} {d : Int} (f k : Nat) (h : l.length ≤ f + k) : ¬ (endR l d f k < l.length ∧ d < dep l (endR l d f k)) := by
  induction f generalizing k with
  | zero => unfold endR; omega
  | succ f ih =>
    unfold endR
    split
    · exact ih (k + 1) (by omega)
    · rename_i h2; exact h2
/-- A kid's nodes lie among those of the node. -/
theorem end_in {l : List Nd} {node : Int} (_h1 : -1 ≤ node) (_h2 : node < l.length) {x : Nat} (hx : kidsFr node ≤ x) (hx2 : x < kidsTo l node) : endOf l x ≤ kidsTo l node := by
  unfold kidsFr at hx
  unfold kidsTo at hx2 ⊢
  split at hx
  · rename_i h0
    rw [if_pos h0] at hx2 ⊢
    have hd : dep l node.toNat < dep l x := endR_low _ _ _ hx hx2
    have hs := endR_at' (l := l) (d := dep l node.toNat) l.length (node.toNat + 1) (by omega)
    refine endR_stops (fun h => hs ⟨h.1, by have := h.2; show dep l node.toNat < dep l (endOf l node.toNat); omega⟩) _ _ (show x + 1 ≤ endOf l node.toNat by omega)
  · rename_i h0
    rw [if_neg h0] at hx2 ⊢
    exact endOf_le hx2
theorem kids_span {l : List Nd} {to : Nat} : ∀ (f k : Nat), (∀ x, k ≤ x → x < to → endOf l x ≤ to) → ((kidsR l to f k).map fun x : Nat => span l (x : Int)).sum ≤ to - k
  | 0, k, _ => by simp [kidsR]
  | f + 1, k, h => by
    unfold kidsR
    split
    · rename_i hk
      have h1 := h k (Nat.le_refl _) hk
      have h2 := endOf_gt l k
      have ih := kids_span f (endOf l k) fun x hx hx2 => h x (by omega) hx2
      rw [List.map_cons, List.sum_cons]
      have e : span l (k : Int) = endOf l k - k := if_pos (by omega)
      rw [e]
      omega
    · simp
theorem flat_sum {g : Nat → List Nat} {s : Nat → Nat} : ∀ (ks : List Nat), (∀ k ∈ ks, (g k).length ≤ s k) → (ks.flatMap g).length ≤ (ks.map s).sum
  | [], _ => by simp
  | k :: ks, h => by
    have h1 := h k (by simp)
    have h2 := flat_sum (g := g) (s := s) ks fun x hx => h x (by simp [hx])
    rw [List.flatMap_cons, List.length_append, List.map_cons, List.sum_cons]
    omega
theorem ordK_sum {l : List Nd} {node : Int} {s : Nat → Nat} : ((ordK l node).map s).sum = ((kidsOf l node).map s).sum := by
  unfold ordK
  split
  · rw [List.map_append, List.sum_append]
    cases kidsOf l node with
    | nil => rfl
    | cons a ks =>
      simp only [List.tail_cons, List.take_succ_cons, List.take_zero, List.map_cons, List.map_nil, List.sum_cons, List.sum_nil]
      omega
  · rfl
theorem lvs_len {l : List Nd} : ∀ (f : Nat) (node : Int), -1 ≤ node → node < l.length → (lvs l f node).length ≤ span l node
  | 0, node, _, _ => Nat.zero_le _
  | f + 1, node, h1, h2 => by
    unfold lvs
    split
    · rename_i h
      have e : span l node = endOf l node.toNat - node.toNat := if_pos h.1
      have := endOf_gt l node.toNat
      rw [e, List.length_singleton]
      omega
    · have h3 := flat_sum (g := fun k : Nat => lvs l f (k : Int)) (s := fun k : Nat => span l (k : Int)) (ordK l node) fun k hk => by
        have := kidsOf_mem h1 h2 (ordK_mem hk)
        exact lvs_len f _ (by omega) (by omega)
      rw [ordK_sum] at h3
      have h4 := kids_span (l := l) (to := kidsTo l node) (kidsTo l node - kidsFr node) (kidsFr node) fun x hx hx2 => end_in h1 h2 hx hx2
      have h5 : kidsTo l node - kidsFr node ≤ span l node := by
        unfold kidsTo kidsFr span
        split <;> omega
      unfold kidsOf kidsFrom at h3
      omega
theorem rgsL_len {rg : Nat → Nat → List (Nat × Nat × Nat)} {lv s : Nat → Nat} : ∀ (ks : List Nat) (r : Nat), (∀ k ∈ ks, ∀ r, (rg k r).length ≤ s k) → (rgsL rg lv ks r).length ≤ (ks.map s).sum
  | [], _, _ => by simp [rgsL]
  | k :: ks, r, h => by
    have h1 := h k (by simp) r
    have h2 := rgsL_len (rg := rg) (lv := lv) (s := s) ks (r + lv k) fun x hx => h x (by simp [hx])
    rw [rgsL, List.length_append, List.map_cons, List.sum_cons]
    omega
theorem rgs_len {l : List Nd} : ∀ (f : Nat) (node : Int) (r : Nat), -1 ≤ node → node < l.length → (rgs l f node r).length ≤ span l node
  | 0, node, _, _, _ => Nat.zero_le _
  | f + 1, node, r, h1, h2 => by
    unfold rgs
    split
    · exact Nat.zero_le _
    · have h3 := rgsL_len (rg := fun (k : Nat) r => rgs l f (k : Int) r) (lv := fun k : Nat => (lvs l f (k : Int)).length) (s := fun k : Nat => span l (k : Int)) (ordK l node) r fun k hk r => by
        have := kidsOf_mem h1 h2 (ordK_mem hk)
        exact rgs_len f _ r (by omega) (by omega)
      rw [ordK_sum] at h3
      have h4 := kids_span (l := l) (to := kidsTo l node) (kidsTo l node - kidsFr node) (kidsFr node) fun x hx hx2 => end_in h1 h2 hx hx2
      unfold kidsOf kidsFrom at h3
      rw [List.length_append]
      by_cases h0 : 0 ≤ node
      · have h5 : kidsTo l node - kidsFr node + 1 ≤ span l node := by
          have := endOf_gt l node.toNat
          unfold kidsTo kidsFr span
          simp only [if_pos h0]
          omega
        have h6 : (if 0 ≤ node ∧ kd l node.toNat = 5 then [(node.toNat, r, r + (lvs l (f + 1) node).length)] else []).length ≤ 1 := by split <;> simp
        omega
      · have h5 : kidsTo l node - kidsFr node ≤ span l node := by
          unfold kidsTo kidsFr span
          simp only [if_neg h0]
          omega
        rw [if_neg (fun h => h0 h.1), List.length_nil]
        omega
theorem lvs_all {l : List Nd} (f : Nat) : (lvs l f (-1)).length ≤ l.length := by
  have := lvs_len (l := l) f (-1) (by omega) (by omega)
  exact this
/-- The leaves of a text in the order in which they are read; its rings. -/
def leaves (l : List Nd) : List Nat := lvs l (l.length + 1) (-1)
def ringsOf (l : List Nd) : List (Nat × Nat × Nat) := rgs l (l.length + 1) (-1) 0
set_option maxRecDepth 100000 in
set_option maxHeartbeats 1000000 in
theorem order_any (l : List Nd) (hl : l.length ≤ 1000000) (hH : ∀ i : Nat, i < l.length → kd l i = 7 → 2 ≤ (kidsOf l (i : Int)).length) (A : Option Addr) (c n0 lf : Nat) (lc : Array Value) (rf : Nat) (rc : Array Value) (w : World) (hn0 : n0 ≤ w.heap.size) (r : Nds w n0 A l)
    (J : List Nat → List (Nat × Nat × Nat) → World → Prop) (T : Told l A c n0 w.heap.size lf lc rf rc J) (hJ : J [] [] w) :
    Calls Tryz.prog 43 #[.slice A l.length c, .func (.func lf) #[] lc, .func (.func rf) #[] rc] w fun e w' => e = .returned (.tuple #[]) ∧ J (leaves l) (ringsOf l) w' ∧ KV n0 w.heap.size w w' := by
  obtain ⟨W, hW⟩ : ∃ W, W = (((((w.alloc (.cells #[.slice A l.length c] 28)).alloc (.cells #[.func (.func lf) #[] lc] 119)).alloc (.cells #[.func (.func rf) #[] rc] 120)).alloc (.cells #[.int .i64 0] 3)).alloc (.cells #[.func (.func 65) #[] (caps w.heap.size)] 119)) := ⟨_, rfl⟩
  have hb : Below w.heap.size w W := by rw [hW]; exact (((((Below.refl _ _).alloc (Nat.le_refl _) _).alloc (by simp) _).alloc (by simp <;> omega) _).alloc (by simp <;> omega) _).alloc (by simp <;> omega) _
  have hV : VF l A c n0 w.heap.size lf lc rf rc W := by
    rw [hW]
    refine ⟨?_, ?_, ?_, ?_, ?_⟩
    · rw [Below.heap_alloc _ _ _ (by simp <;> omega), Below.heap_alloc _ _ _ (by simp <;> omega), Below.heap_alloc _ _ _ (by simp <;> omega), Below.heap_alloc _ _ _ (by simp <;> omega)]
      exact heap_alloc_new _ _
    · rw [Below.heap_alloc _ _ _ (by simp <;> omega), Below.heap_alloc _ _ _ (by simp <;> omega), Below.heap_alloc _ _ _ (by simp <;> omega)]
      have := heap_alloc_new (w.alloc (.cells #[.slice A l.length c] 28)) (.cells #[.func (.func lf) #[] lc] 119)
      simpa using this
    · rw [Below.heap_alloc _ _ _ (by simp <;> omega), Below.heap_alloc _ _ _ (by simp <;> omega)]
      have := heap_alloc_new ((w.alloc (.cells #[.slice A l.length c] 28)).alloc (.cells #[.func (.func lf) #[] lc] 119)) (.cells #[.func (.func rf) #[] rc] 120)
      simpa using this
    · have := heap_alloc_new ((((w.alloc (.cells #[.slice A l.length c] 28)).alloc (.cells #[.func (.func lf) #[] lc] 119)).alloc (.cells #[.func (.func rf) #[] rc] 120)).alloc (.cells #[.int .i64 0] 3)) (.cells #[.func (.func 65) #[] (caps w.heap.size)] 119)
      simpa using this
    · exact r.below (by rw [← hW]; exact hb.mono hn0)
  have hR : RdN w.heap.size 0 W := by
    unfold RdN
    rw [hW, Below.heap_alloc _ _ _ (by simp <;> omega)]
    have := heap_alloc_new (((w.alloc (.cells #[.slice A l.length c] 28)).alloc (.cells #[.func (.func lf) #[] lc] 119)).alloc (.cells #[.func (.func rf) #[] rc] 120)) (.cells #[.int .i64 0] 3)
    simpa using this
  have hv := visit_any l hl hH A c n0 w.heap.size lf lc rf rc hn0 J T (l.length + 1) (-1) [] [] W (by omega) (by omega) (by omega) hV hR (T.below _ _ _ _ hJ hb) (by have := lvs_all (l := l) (l.length + 1); rw [List.length_nil]; omega) (by have := rgs_len (l := l) (l.length + 1) (-1) 0 (by omega) (by omega); have e : span l (-1) = l.length := if_neg (by omega); rw [e] at this; rw [List.length_nil, List.length_nil]; omega)
  rw [List.nil_append, List.nil_append, List.length_nil] at hv
  unfold vArgs at hv
  have hst : ∀ (m : Mode) (a : Addr) (fn : Fn) (first cap : Array Value) (w : World), (store a (.func fn first cap) m).run Tryz.prog w = stored Tryz.prog w a (.func fn first cap) m := fun m a fn first cap w => run_store _ w a _ m rfl
  have HVI := hid hv
  have HW := hid hW
  have HB := hid hb
  clear hv hV hR hJ T r hH hW hb
  obtain ⟨N, hN⟩ : ∃ N, N = l.length := ⟨_, rfl⟩
  rw [← hN] at hl HVI HW ⊢
  have HN := hid hN
  clear hN
  go_enter Tryz.func43, Tryz.ntmps43
  go_wp2_with fail
  have hcall := HVI.out
  rw [HW.out] at hcall
  unfold caps at hcall
  refine hcall.mono ?_
  rintro e w6 ⟨rfl, j6, k6, _⟩
  have J6 := hid j6
  have K6 := hid (((KV.of_below (B := w.heap.size) HB.out hn0)).trans (by rw [HW.out]; unfold caps; exact k6))
  clear j6 k6 hcall HVI
  go_wp2_with fail
  go_end0
  exact ⟨rfl, by unfold leaves ringsOf; rw [← HN.out]; exact J6.out, K6.out⟩
end Go.Proofs.YtimblabaeclhpaaGreat

/- WALK: groups.line: the marks of a valid text. -/
namespace Go.Proofs.YtimblabaeclhpaaGreat
open Go.RowKit Go.Shelf
structure Mk where
  sign : Int
  state : Int
  mn : Int
  mx : Int
deriving DecidableEq
instance : Inhabited Mk := ⟨⟨0, 0, 0, 0⟩⟩
def Mk.cells (m : Mk) : List Value := [.int .i64 m.sign, .int .i64 m.state, .int .i64 m.mn, .int .i64 m.mx]
def flatM (l : List Mk) : List Value := l.flatMap Mk.cells
theorem flatM_app (xs ys : List Mk) : flatM (xs ++ ys) = flatM xs ++ flatM ys := by unfold flatM; rw [List.flatMap_append]
theorem flatM_len (l : List Mk) : (flatM l).length = l.length * 4 := by
  unfold flatM
  induction l with
  | nil => rfl
  | cons a l ih => rw [List.flatMap_cons, List.length_append, ih, List.length_cons]; simp only [Mk.cells, List.length_cons, List.length_nil]; omega
def mkOf (n : Nd) : Mk := if n.kind = 6 then ⟨-1, 0, n.mn, n.mx⟩ else ⟨n.sign, n.state, 0, 0⟩
def mkAt (l : List Nd) (i : Nat) : Mk := match l[i]? with
  | some n => mkOf n
  | none => ⟨0, 0, 0, 0⟩
theorem mkAt_at {l : List Nd} {i : Nat} (h : i < l.length) : mkAt l i = mkOf l[i] := by
  unfold mkAt
  rw [List.getElem?_eq_getElem h]
theorem Tryz.infoMark : (Tryz.prog.info? 52).map (fun i => (i.zero, i.size, i.bytes)) = some (some (.agg #[.int .i64 0, .int .i64 0, .int .i64 0, .int .i64 0]), 4, 32) := by kernel_rfl
set_option maxRecDepth 100000 in
set_option maxHeartbeats 1000000 in
theorem mark_any (n : Nd) (w : World) :
    Calls Tryz.prog 45 #[.agg #[.int .i64 n.kind, .int .i64 n.depth, .int .i64 n.sign, .int .i64 n.turn, .bool n.mir, .int .i64 n.state, .int .i64 n.mn, .int .i64 n.mx]] w fun e w' =>
      e = .returned (.agg #[.int .i64 (mkOf n).sign, .int .i64 (mkOf n).state, .int .i64 (mkOf n).mn, .int .i64 (mkOf n).mx]) ∧ Below w.heap.size w w' := by
  by_cases h : n.kind = 6
  · have e1 : (n.kind == 6) = true := by simp [h]
    have hm : mkOf n = ⟨-1, 0, n.mn, n.mx⟩ := if_pos h
    rw [hm]
    clear hm h
    go_enter Tryz.func45, Tryz.ntmps45
    go_wp2_with fail
    exact bodyPost_ret (v := .agg #[.int .i64 (-1), .int .i64 0, .int .i64 n.mn, .int .i64 n.mx]) (by simp [results, Tryz.results45, go_sem]) rfl ⟨rfl, ((Below.refl _ _).alloc (Nat.le_refl _) _).alloc (by simp) _⟩
  · have e1 : (n.kind == 6) = false := by simp [h]
    have hm : mkOf n = ⟨n.sign, n.state, 0, 0⟩ := if_neg h
    rw [hm]
    clear hm h
    go_enter Tryz.func45, Tryz.ntmps45
    go_wp2_with fail
    exact bodyPost_ret (v := .agg #[.int .i64 n.sign, .int .i64 n.state, .int .i64 0, .int .i64 0]) (by simp [results, Tryz.results45, go_sem]) rfl ⟨rfl, ((Below.refl _ _).alloc (Nat.le_refl _) _).alloc (by simp) _⟩
theorem step_mk {ops : Array Oper} {o : Oper} {a : Act} {w : World} {K : Act → World → Prop} {Q : Exit → Act → World → Prop} {E : Prop} (hgd : o.guard = none) (s x : Operand)
    (ho : o.op = .call { callee := .builtin .append, args := #[s, x], argTypes := #[48, 48] })
    (base : Nat) (v : Value) (n : Nat) (xs : List Mk) (hs : a.eval s = v) (hown : w.ownsRow base 52 4 v n (flatM xs))
    (ad : Addr) (m : Mk) (hx : a.eval x = .slice (some ad) 1 1) (hp : ∀ j u, m.cells[j]? = some u → w.cell? (ad.add j) = some u) (hn : n ≤ 1000000) (hbase : base ≤ w.heap.size)
    (h : ∀ v' w', w'.ownsRow base 52 4 v' (n + 1) (flatM (xs ++ [m])) → w.grownBy w' v.ownBlock → K (a.put o.dst v') w') :
    if Region.wanted o (yielded ops a.tmps) = true then Oper.wp Tryz.prog o a w K Q else E := by
  rw [if_pos (by simp [Region.wanted, hgd])]
  obtain ⟨i0, hi, hz0, hzz, hz2⟩ := info_parts Tryz.infoMark
  refine wp_append_own w s x _ ho base _ i0 _ 4 32 Tryz.underlying48 hi hz0 hzz hz2 rfl (by decide) v n (flatM xs) hs hown ad 1 1 m.cells hx rfl hp (fun u hu => ?_) (by unfold maxLen; omega) (by omega) hbase (fun v' w' a b _ => h v' w' (by rw [flatM_app]; simpa [flatM] using a) b)
  simp only [Mk.cells, List.mem_cons, List.not_mem_nil, or_false] at hu
  rcases hu with rfl | rfl | rfl | rfl <;> rfl
/-- What line keeps: the text's box, the cell of the marks, the marks. -/
structure LJ (l : List Nd) (A : Option Addr) (c B0 : Nat) (w : World) (ls : List Nat) (W : World) : Prop where
  t_ : W.heap[B0]? = some (.cells #[.slice A l.length c] 30 (0, 0))
  o_ : ∃ v, W.heap[B0 + 1]? = some (.cells #[v] 48 (0, 0)) ∧ W.ownsRow (B0 + 7) 52 4 v ls.length (flatM (ls.map (mkAt l)))
  bel : Below B0 w W
theorem LJ.below {l : List Nd} {A : Option Addr} {c B0 : Nat} {w : World} {ls : List Nat} {W W' : World} (h : LJ l A c B0 w ls W) (hb : Below W.heap.size W W') : LJ l A c B0 w ls W' := by
  obtain ⟨v, h1, h2⟩ := h.o_
  exact ⟨(hb.block _ (lt_of_block h.t_)).trans h.t_, ⟨v, (hb.block _ (lt_of_block h1)).trans h1, own_keep h2 hb⟩, h.bel.trans (hb.mono (by have := lt_of_block h.t_; omega))⟩
theorem LJ.read {l : List Nd} {A : Option Addr} {c B0 : Nat} {w : World} {ls : List Nat} {W : World} (h : LJ l A c B0 w ls W) (v : Value) : LJ l A c B0 w ls (W.setCell ⟨B0 + 2 + 3, 0, none⟩ v) := by
  obtain ⟨u, h1, h2⟩ := h.o_
  exact ⟨(Below.heap_setCell _ _ _ _ (by simp <;> omega)).trans h.t_, ⟨u, (Below.heap_setCell _ _ _ _ (by simp <;> omega)).trans h1, ownsRow_setCell_other h2 (a := ⟨B0 + 2 + 3, 0, none⟩) (fun he => by have := (h2.lt _ he).1; simp at this; omega) v⟩, h.bel.setCell (by simp; omega) _⟩
/-- The step of line$1: a mark is appended, and the cell of the marks is stored. -/
theorem line_next {l : List Nd} {A : Option Addr} {c n0 B0 i : Nat} {w W w3 w4 : World} {ls : List Nat} {v v4 : Value} {mk : Mk} {X : Obj} (hn0 : n0 ≤ B0) (hsz : B0 + 2 + 5 ≤ W.heap.size) (hJ : LJ l A c B0 w ls W) (ho : W.heap[B0 + 1]? = some (.cells #[v] 48 (0, 0)))
    (hown : W.ownsRow (B0 + 7) 52 4 v ls.length (flatM (ls.map (mkAt l)))) (hmk : mk = mkAt l i) (hb3 : Below W.heap.size W w3) (ho4 : w4.ownsRow (B0 + 7) 52 4 v4 (ls.length + 1) (flatM (ls.map (mkAt l) ++ [mk]))) (hg4 : (w3.alloc X).grownBy w4 v.ownBlock) :
    (w4.cell? ⟨B0 + 1, 0, none⟩ = some v ∧ w4.frozen? ⟨B0 + 1, 0, none⟩ = false) ∧ LJ l A c B0 w (ls ++ [i]) (w4.setCell ⟨B0 + 1, 0, none⟩ v4) ∧ KV n0 (B0 + 2) W (w4.setCell ⟨B0 + 1, 0, none⟩ v4) ∧ (w4.setCell ⟨B0 + 1, 0, none⟩ v4).heap[B0 + 2 + 3]? = W.heap[B0 + 2 + 3]? := by
  have hb : Below W.heap.size W (w3.alloc X) := hb3.alloc hb3.size _
  have hk : ∀ (k : Nat) (o : Obj), W.heap[k]? = some o → (k < B0 + 7 ∨ ∃ (cs : Array Value) (fz : Nat × Nat), o = Obj.cells cs 3 fz) → w4.heap[k]? = some o := fun k o h1 h2 => by
    have h3 := (hb.block k (lt_of_block h1)).trans h1
    refine (hg4.block k (lt_of_block h3) fun e => ?_).trans h3
    rcases hown.2 with ⟨h4, _⟩ | ⟨g, cap, cur, hv, hg, hh, _⟩
    · rw [h4] at e; cases e
    · rw [hv] at e
      injection e with e
      have e2 : k = g := e
      subst e2
      rcases h2 with h2 | ⟨cs, fz, rfl⟩
      · omega
      · rw [hh] at h1
        injection h1 with h1
        injection h1 with _ h1 _
        exact absurd h1 (by decide)
  have hO := hk _ _ ho (.inl (by omega))
  have hset : ∀ k : Nat, k ≠ B0 + 1 → (w4.setCell ⟨B0 + 1, 0, none⟩ v4).heap[k]? = w4.heap[k]? := fun k h => Below.heap_setCell _ _ _ _ h
  have hbel : Below B0 W w4 := (below_app (hb.mono (show B0 ≤ W.heap.size by omega)) (own_keep hown hb) hg4 (by omega) (by have := hb.size; omega))
  have h9 : W.heap[B0 + 2 + 3]? = w4.heap[B0 + 2 + 3]? := by
    have hlt : B0 + 2 + 3 < W.heap.size := by omega
    have h1 : W.heap[B0 + 2 + 3]? = some W.heap[B0 + 2 + 3] := Array.getElem?_eq_getElem hlt
    rw [h1]
    exact (hk _ _ h1 (.inl (by omega))).symm
  refine ⟨⟨cell_of_one hO, free_of_one hO⟩, ⟨?_, ⟨v4, one_setCell hO, ?_⟩, ?_⟩, ⟨?_, fun k o h1 h2 h3 => ?_⟩, ?_⟩
  · rw [hset _ (by omega)]
    exact hk _ _ hJ.t_ (.inl (by omega))
  · rw [List.length_append, List.map_append]
    have := ownsRow_setCell_other ho4 (a := ⟨B0 + 1, 0, none⟩) (fun he => by have := (ho4.lt _ he).1; simp at this <;> omega) v4
    rw [hmk] at this
    exact this
  · exact hJ.bel.trans (hbel.setCell (by simp) _)
  · exact (hbel.mono hn0).setCell (by simp; omega) _
  · rcases h2 with h2 | h2
    · rw [hset _ (by omega)]
      exact hk _ _ h3 (.inl (by omega))
    · obtain ⟨cs, fz, rfl⟩ := h2
      rw [hset _ (fun e => ?_)]
      · exact hk _ _ h3 (.inr ⟨cs, fz, rfl⟩)
      · subst e
        rw [ho] at h3
        injection h3 with h3
        injection h3 with _ h3 _
        exact absurd h3 (by decide)
  · rw [hset _ (by omega)]
    exact h9.symm
set_option maxRecDepth 100000 in
set_option maxHeartbeats 2000000 in
theorem line1_any (l : List Nd) (A : Option Addr) (c n0 B0 : Nat) (rf : Nat) (rc : Array Value) (w : World) (hn0 : n0 ≤ B0) (ls : List Nat) (i : Nat) (hi : i < l.length) (hlen : ls.length < 1000000) (W : World) (hJ : LJ l A c B0 w ls W) (hV : VF l A c n0 (B0 + 2) 44 #[.pointer (some ⟨B0 + 1, 0, none⟩), .pointer (some ⟨B0, 0, none⟩)] rf rc W) :
    Calls Tryz.prog 44 #[.int .i64 (i : Int), .pointer (some ⟨B0 + 1, 0, none⟩), .pointer (some ⟨B0, 0, none⟩)] W fun e w' => e = .returned (.tuple #[]) ∧ LJ l A c B0 w (ls ++ [i]) w' ∧ KV n0 (B0 + 2) W w' ∧ w'.heap[B0 + 2 + 3]? = W.heap[B0 + 2 + 3]? := by
  obtain ⟨v, ho, hown⟩ := hJ.o_
  have p1 := cell_of_one ho
  have z1 := free_of_one ho
  have p2 := cell_of_one hJ.t_
  obtain ⟨b, o, rfl, hbB, hc⟩ := hV.nds.at (by omega)
  have hnd := hc i hi
  have k1 := hnd.kind; have k2 := hnd.depth; have k3 := hnd.sign; have k4 := hnd.turn; have k5 := hnd.mir; have k6 := hnd.state; have k7 := hnd.mn; have k8 := hnd.mx
  have hmk := mkAt_at hi
  have hma := fun w3 => mark_any l[i] w3
  rw [← hmk] at hma
  generalize l[i] = nd at k1 k2 k3 k4 k5 k6 k7 k8 hma
  obtain ⟨A5, c5, rfl⟩ := own_slice hown
  have hsz := hV.size
  obtain ⟨mk, hmk2⟩ : ∃ mk, mk = mkAt l i := ⟨_, rfl⟩
  rw [← hmk2] at hma
  have HMA := hid hma
  obtain ⟨N, hN⟩ : ∃ N, N = l.length := ⟨_, rfl⟩
  rw [← hN] at p2 hi
  have q0 : (i : Int) < (N : Int) := by omega
  have HN := hid hN; have HMK := hid hmk2; have HJ := hid hJ; have HV := hid hV; have HO := hid ho; have HOW := hid hown
  clear hmk hma hnd hc hN hmk2 hJ hV ho hown
  go_enter Tryz.func44, Tryz.ntmps44
  go_wp2_with fail
  have HNX := hid fun (w3 : World) (hb3 : Below W.heap.size W w3) (v4 : Value) (w4 : World) (ho4 : w4.ownsRow (B0 + 7) 52 4 v4 (ls.length + 1) (flatM (ls.map (mkAt l) ++ [mk]))) (hg4 : (w3.alloc (.cells #[.int .i64 mk.sign, .int .i64 mk.state, .int .i64 mk.mn, .int .i64 mk.mx] 52)).grownBy w4 (Value.slice A5 ls.length c5).ownBlock) =>
    line_next hn0 hsz HJ.out HO.out HOW.out HMK.out hb3 ho4 hg4
  go_region_law (first
    | (refine step_mk rfl (.tmp 4) (.tmp 11) rfl (B0 + 7) _ _ _ rfl (own_keep HOW.out (HB3.out.alloc HB3.out.size _)) ⟨w3.heap.size, 0, none⟩ mk (by simp [Act.eval]) (cell_news w3 mk.cells 52) (by omega) (by have := HB3.out.size; simp; omega) ?_; intro v4 w4 ho4 hg4; have hx4 := HNX.out w3 HB3.out v4 w4 ho4 hg4; have p9 := hx4.1.1; have z9 := hx4.1.2; have H4 := hid hx4.2; obtain ⟨A6, c6, rfl⟩ := own_slice ho4; clear ho4 hg4 hx4)
    | (go_simp; go_at_call 45; refine (HMA.out _).mono ?_; rintro e w3 ⟨rfl, hb3⟩; have p3 := (hb3.cell (p := ⟨B0 + 1, 0, none⟩) (by simp; omega)).trans p1; have hlt3 : B0 + 1 < w3.heap.size := (by have := hb3.size; simp at this; omega); have HB3 := hid ((Below.refl _ _).drew.trans hb3)))
  all_goals
    go_wp2_with fail
    go_end0
    exact ⟨rfl, H4.out.1, H4.out.2.1, H4.out.2.2⟩
end Go.Proofs.YtimblabaeclhpaaGreat

/- WALK: groups.line as a whole. -/
namespace Go.Proofs.YtimblabaeclhpaaGreat
open Go.RowKit Go.Shelf
set_option maxRecDepth 100000 in
theorem noRing_any (a b c : Value) (w : World) : Calls Tryz.prog 46 #[a, b, c] w fun e w' => e = .returned (.tuple #[]) ∧ w = w' := by
  go_enter Tryz.func46, Tryz.ntmps46
  go_wp2_with fail
  go_end0
  exact ⟨rfl, rfl⟩
theorem line_told (l : List Nd) (A : Option Addr) (c n0 B0 : Nat) (w : World) (hn0 : n0 ≤ B0) :
    Told l A c n0 (B0 + 2) 44 #[.pointer (some ⟨B0 + 1, 0, none⟩), .pointer (some ⟨B0, 0, none⟩)] 46 #[] (fun ls _ W => LJ l A c B0 w ls W) where
  below := fun _ _ _ _ h hb => h.below hb
  read := fun _ _ _ v h _ => h.read v
  leaf := fun ls rs i W hJ hV hi _ hlen => line1_any l A c n0 B0 _ _ w hn0 ls i hi hlen W hJ hV
  ring := fun ls rs i fr W hJ hV _ _ _ _ _ => (noRing_any _ _ _ W).mono fun e w' ⟨h1, h2⟩ => by subst h2; exact ⟨h1, hJ, KV.refl _ _ _, rfl⟩
  lent := enters_of Tryz.func44 (by kernel_rfl) rfl
  rent := enters_of Tryz.func46 (by kernel_rfl) rfl
/-- Every Honour has at least two kids. -/
def HonOk (l : List Nd) : Prop := ∀ i : Nat, i < l.length → kd l i = 7 → 2 ≤ (kidsOf l (i : Int)).length
def marks (l : List Nd) : List Mk := (leaves l).map (mkAt l)
set_option maxRecDepth 100000 in
set_option maxHeartbeats 1000000 in
theorem line_any (l : List Nd) (hl : l.length ≤ 1000000) (hH : HonOk l) (A : Option Addr) (c n0 : Nat) (w : World) (hn0 : n0 ≤ w.heap.size) (r : Nds w n0 A l) :
    Calls Tryz.prog 21 #[.agg #[.slice A l.length c]] w fun e w' => ∃ v, e = .returned v ∧ w'.ownsRow w.heap.size 52 4 v (marks l).length (flatM (marks l)) ∧ Below w.heap.size w w' := by
  obtain ⟨W, hW⟩ : ∃ W, W = (w.alloc (.cells #[.slice A l.length c] 30)).alloc (.cells #[.slice none 0 0] 48) := ⟨_, rfl⟩
  have hb : Below w.heap.size w W := by rw [hW]; exact ((Below.refl _ _).alloc (Nat.le_refl _) _).alloc (by simp) _
  have hz : W.heap.size = w.heap.size + 2 := by rw [hW]; simp
  have T := line_told l A c n0 w.heap.size w hn0
  rw [← hz] at T
  have h1 : W.heap[w.heap.size]? = some (.cells #[.slice A l.length c] 30 (0, 0)) := by
    rw [hW, Below.heap_alloc _ _ _ (by simp)]
    exact heap_alloc_new _ _
  have h2 : W.heap[w.heap.size + 1]? = some (.cells #[.slice none 0 0] 48 (0, 0)) := by
    rw [hW]
    have := heap_alloc_new (w.alloc (.cells #[.slice A l.length c] 30)) (.cells #[.slice none 0 0] 48)
    simpa using this
  have hJ : LJ l A c w.heap.size w [] W := ⟨h1, ⟨_, h2, World.ownsRow_nil _ _ _ _⟩, hb⟩
  have ho := order_any l hl hH A c n0 _ _ _ _ W (by omega) (r.below (hb.mono hn0)) _ T hJ
  have p1 := cell_of_one h1
  have HO := hid ho; have HW := hid hW; have HB := hid hb
  clear ho T hJ h1 h2 hb hz r hH
  obtain ⟨N, hN⟩ : ∃ N, N = l.length := ⟨_, rfl⟩
  rw [← hN] at hl HO HW p1 ⊢
  clear hN
  go_enter Tryz.func21, Tryz.ntmps21
  go_wp2_with fail
  have hc := HO.out
  rw [HW.out] at hc
  refine hc.mono ?_
  rintro e w6 ⟨rfl, j6, _⟩
  obtain ⟨v, o1, o2⟩ := j6.o_
  have p2 := cell_of_one o1
  have HV := hid (own_base o2 (show w.heap.size ≤ w.heap.size + 7 by omega))
  have HB6 := hid j6.bel
  clear hc HO j6 o1 o2
  go_wp2_with fail
  go_ret
  refine ⟨_, rfl, ?_, HB6.out⟩
  unfold marks
  rw [List.length_map]
  exact HV.out
end Go.Proofs.YtimblabaeclhpaaGreat
