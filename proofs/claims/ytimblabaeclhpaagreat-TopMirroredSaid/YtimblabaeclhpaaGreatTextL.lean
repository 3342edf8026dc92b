/- groups.Order. -/
import Derived.Test.YtimblabaeclhpaaGreatOrder
import Derived.Test.YtimblabaeclhpaaGreatChk2
import Derived.Test.YtimblabaeclhpaaGreatCopy
import Derived.Deep.RegionLaw
import Derived.Test.YtimblabaeclhpaaGreatKids
namespace Go.Proofs.YtimblabaeclhpaaGreat
open Go.RowKit
theorem flatM_get : ∀ (l : List Mk) (k j : Nat) (hk : k < l.length), j < 4 → (flatM l)[k * 4 + j]? = (l[k].cells)[j]?
  | a :: l, 0, j, _, hj => by
    unfold flatM
    rw [List.flatMap_cons, Nat.zero_mul, Nat.zero_add, List.getElem?_append_left (by simpa [Mk.cells] using hj)]
    rfl
  | a :: l, k + 1, j, hk, hj => by
    have ih := flatM_get l k j (by simpa using hk) hj
    unfold flatM at ih ⊢
    rw [List.flatMap_cons, List.getElem?_append_right (by simp only [Mk.cells, List.length_cons, List.length_nil]; omega)]
    have e : (k + 1) * 4 + j - a.cells.length = k * 4 + j := by simp only [Mk.cells, List.length_cons, List.length_nil]; omega
    rw [e, ih]
    rfl
def Mks (w : World) (B : Nat) (A : Option Addr) (l : List Mk) : Prop := Reads w B 4 A l.length (flatM l)
structure MkAt (w : World) (b o : Nat) (m : Mk) : Prop where
  sign : w.cell? ⟨b, o, none⟩ = some (.int .i64 m.sign)
  state : w.cell? ⟨b, o + 1, none⟩ = some (.int .i64 m.state)
  mn : w.cell? ⟨b, o + 2, none⟩ = some (.int .i64 m.mn)
  mx : w.cell? ⟨b, o + 3, none⟩ = some (.int .i64 m.mx)
theorem Mks.at {w : World} {B : Nat} {A : Option Addr} {l : List Mk} (h : Mks w B A l) (hl : 0 < l.length) :
    ∃ b o, A = some ⟨b, o, none⟩ ∧ b < B ∧ ∀ k (hk : k < l.length), MkAt w b (o + k * 4) l[k] := by
  obtain ⟨b, o, rfl, hb, hc⟩ := Reads.at0 h hl (by rw [flatM_len]; omega)
  refine ⟨b, o, rfl, hb, fun k hk => ?_⟩
  have hx : ∀ j u, j < 4 → (l[k].cells)[j]? = some u → w.cell? ⟨b, o + k * 4 + j, none⟩ = some u := fun j u hj hu => by
    rw [Nat.add_assoc]
    exact hc _ u (by rw [flatM_get l k j hk hj]; exact hu)
  exact ⟨hx 0 _ (by omega) rfl, hx 1 _ (by omega) rfl, hx 2 _ (by omega) rfl, hx 3 _ (by omega) rfl⟩
theorem MkAt.below {w w' : World} {B b o : Nat} {m : Mk} (h : MkAt w b o m) (hb : Below B w w') (hB : b < B) : MkAt w' b o m :=
  have c : ∀ j, w'.cell? ⟨b, j, none⟩ = w.cell? ⟨b, j, none⟩ := fun j => hb.cell (p := ⟨b, j, none⟩) hB
  ⟨(c _).trans h.sign, (c _).trans h.state, (c _).trans h.mn, (c _).trans h.mx⟩
end Go.Proofs.YtimblabaeclhpaaGreat

/- PLAIN LAW: texts that a function answers: Plain, Mirror, a part of a text, all node by node. -/
namespace Go.Proofs.YtimblabaeclhpaaGreat
open Go.RowKit
/-- A function that answers a text and an error. -/
def TxtPost (E : Int) (L : List Nd) (w : World) (e : Ending) (w' : World) : Prop := ∃ v, e = .returned (.tuple #[.agg #[v], .int .i64 E]) ∧ w'.ownsRow w.heap.size 67 8 v L.length (flatN L) ∧ Below w.heap.size w w'
theorem flatN_app (xs ys : List Nd) : flatN (xs ++ ys) = flatN xs ++ flatN ys := by unfold flatN; rw [List.flatMap_append]
theorem flatN_sing (n : Nd) : flatN [n] = n.cells := by unfold flatN; simp
/-- One cell of a row of nodes is written. -/
theorem flatN_set : ∀ (l : List Nd) (k j : Nat) (v : Value) (n' : Nd) (hk : k < l.length), j < 8 → n'.cells = (l[k].cells).set j v → (flatN l).set (k * 8 + j) v = flatN (l.set k n')
  | a :: l, 0, j, v, n', _, hj, h => by
    unfold flatN
    rw [List.flatMap_cons, List.set_cons_zero, List.flatMap_cons, Nat.zero_mul, Nat.zero_add, List.set_append_left _ _ (by simpa [Nd.cells] using hj)]
    rw [h]
    rfl
  | a :: l, k + 1, j, v, n', hk, hj, h => by
    have ih := flatN_set l k j v n' (by simpa using hk) hj h
    unfold flatN at ih ⊢
    rw [List.flatMap_cons, List.set_cons_succ, List.flatMap_cons, List.set_append_right _ _ (by simp only [Nd.cells, List.length_cons, List.length_nil]; omega)]
    have e : (k + 1) * 8 + j - a.cells.length = k * 8 + j := by simp only [Nd.cells, List.length_cons, List.length_nil]; omega
    rw [e, ih]
/-- A list of which the first k nodes are changed. -/
def mixN (f : Nd → Nd) (l : List Nd) (k : Nat) : List Nd := (l.take k).map f ++ l.drop k
theorem mixN_0 (f : Nd → Nd) (l : List Nd) : mixN f l 0 = l := by simp [mixN]
theorem mixN_all (f : Nd → Nd) (l : List Nd) : mixN f l l.length = l.map f := by simp [mixN]
theorem mixN_len (f : Nd → Nd) (l : List Nd) (k : Nat) : (mixN f l k).length = l.length := by simp [mixN]; omega
theorem mixN_get {f : Nd → Nd} {l : List Nd} {k : Nat} (hk : k < l.length) : (mixN f l k)[k]'(by rw [mixN_len]; exact hk) = l[k] := by
  unfold mixN
  rw [List.getElem_append_right (by simp; omega)]
  simp [Nat.min_eq_left (Nat.le_of_lt hk)]
theorem mixN_set {f : Nd → Nd} {l : List Nd} {k : Nat} (hk : k < l.length) : (mixN f l k).set k (f l[k]) = mixN f l (k + 1) := by
  unfold mixN
  have e : k - ((l.take k).map f).length = 0 := by simp; omega
  rw [List.set_append_right _ _ (by simp; omega), e, List.drop_eq_getElem_cons hk, List.set_cons_zero, List.take_add_one, List.getElem?_eq_getElem hk, Option.toList_some, List.map_append, List.append_assoc]
  rfl
theorem mixN_same {f : Nd → Nd} {l : List Nd} {k : Nat} (hk : k < l.length) (h : f l[k] = l[k]) : mixN f l k = mixN f l (k + 1) := by
  unfold mixN
  rw [List.drop_eq_getElem_cons hk, List.take_add_one, List.getElem?_eq_getElem hk, Option.toList_some, List.map_append, List.append_assoc, List.map_cons, h]
  rfl
/-- A node of a group that stands one less deep; an Honour becomes a Beside. -/
def lowN (x : Bool) (n : Nd) : Nd := { n with kind := if n.kind = 7 then 2 else n.kind, depth := n.depth - (if x then 1 else 0) }
/-- Does node k - 1 stand below an Honour that is the kid of a Ring, or is it one? -/
def inH (l : List Nd) : Nat → Bool
  | 0 => false
  | k + 1 => if dep l k = 0 then false else if kd l k = 7 then true else inH l k
/-- The nodes of Plain: of the first k nodes. -/
def plR (l : List Nd) : Nat → List Nd
  | 0 => []
  | k + 1 => if dep l k ≠ 0 ∧ kd l k = 7 then plR l k else plR l k ++ [lowN (inH l (k + 1)) (nd l k)]
theorem plR_len (l : List Nd) : ∀ k, (plR l k).length ≤ k
  | 0 => Nat.le_refl _
  | k + 1 => by
    have := plR_len l k
    unfold plR
    split
    · omega
    · simp; omega
noncomputable def plnL (P : Int) (ss : List Sg) (l : List Nd) : List Nd := if chkE P ss l = 0 then plR l l.length else []
theorem plnL_bad {P : Int} {ss : List Sg} {l : List Nd} (h : chkE P ss l ≠ 0) : plnL P ss l = [] := if_neg h
theorem plnL_ok {P : Int} {ss : List Sg} {l : List Nd} (h : chkE P ss l = 0) : plnL P ss l = plR l l.length := if_pos h
/-- A node that is mirrored, if its sign is not even. -/
def mirN (ss : List Sg) (n : Nd) : Nd := if n.kind = 1 ∧ evenOf ss n.sign = false then { n with mir := !n.mir } else n
noncomputable def mrrL (P : Int) (ss : List Sg) (l : List Nd) : List Nd := if chkE P ss l = 0 then l.map (mirN ss) else []
theorem mrrL_bad {P : Int} {ss : List Sg} {l : List Nd} (h : chkE P ss l ≠ 0) : mrrL P ss l = [] := if_neg h
theorem mrrL_ok {P : Int} {ss : List Sg} {l : List Nd} (h : chkE P ss l = 0) : mrrL P ss l = l.map (mirN ss) := if_pos h
/-- A node that stands d less deep. -/
def subN (d : Int) (n : Nd) : Nd := { n with depth := n.depth - d }
/-- The sign of a Glyph is one of the list. -/
theorem sign_ok {P : Int} {ss : List Sg} {l : List Nd} (h : chkE P ss l = 0) {i : Nat} (hi : i < l.length) (hk : l[i].kind = 1) : 0 ≤ l[i].sign ∧ l[i].sign < ss.length := by
  have h1 := firstE_get (chkE_zero h).2.2.1 i hi
  unfold ownE at h1
  rw [nd_at hi] at h1
  unfold ndE at h1
  rw [if_neg (by omega)] at h1
  split at h1
  · omega
  · split at h1
    · omega
    · omega
/-- A text that grows node by node in a box of its own. -/
structure OutT (B : Nat) (w : World) (L : List Nd) (v : Value) (W : World) : Prop where
  o_ : W.heap[B]? = some (.cells #[v] 30 (0, 0))
  own : W.ownsRow (B + 1) 67 8 v L.length (flatN L)
  bel : Below B w W
theorem OutT.below {B : Nat} {w W W' : World} {L : List Nd} {v : Value} (h : OutT B w L v W) (hb : Below W.heap.size W W') : OutT B w L v W' :=
  ⟨(hb.block _ (lt_of_block h.o_)).trans h.o_, own_keep h.own hb, h.bel.trans (hb.mono (by have := lt_of_block h.o_; omega))⟩
theorem OutT.start {B : Nat} {w : World} (hB : B = w.heap.size) : OutT B w [] (.slice none 0 0) (w.alloc (.cells #[.slice none 0 0] 30)) :=
  ⟨heap_nw hB, World.ownsRow_nil _ _ _ _, (Below.refl _ _).alloc (by omega) _⟩
theorem OutT.cell {B : Nat} {w W : World} {L : List Nd} {v : Value} (h : OutT B w L v W) : W.cell? ⟨B, 0, none⟩ = some v ∧ W.frozen? ⟨B, 0, none⟩ = false ∧ B < W.heap.size := ⟨cell_of_one h.o_, free_of_one h.o_, lt_of_block h.o_⟩
theorem OutT.step {B n : Nat} {w W W3 w4 : World} {L : List Nd} {v v4 : Value} {ys : List Value} {nd : Nd} (h : OutT B w L v W) (hb : Below W.heap.size W W3) (hn : n = L.length) (hy : ys = nd.cells) (ho : w4.ownsRow (B + 1) 67 8 v4 (n + 1) (flatN L ++ ys)) (hg : W3.grownBy w4 v.ownBlock) :
    w4.cell? ⟨B, 0, none⟩ = some v ∧ w4.frozen? ⟨B, 0, none⟩ = false ∧ OutT B w (L ++ [nd]) v4 (w4.setCell ⟨B, 0, none⟩ v4) := by
  subst hy hn
  have h3 := h.below hb
  have hne : v.ownBlock ≠ some B := fun e => by have := (h3.own.lt _ e).1; omega
  have hk : w4.heap[B]? = some (.cells #[v] 30 (0, 0)) := (hg.block B (lt_of_block h3.o_) (fun e => hne e.symm)).trans h3.o_
  refine ⟨cell_of_one hk, free_of_one hk, one_setCell hk, ?_, (below_app h3.bel h3.own hg (by omega) (by have := lt_of_block h3.o_; omega)).setCell (by simp) _⟩
  rw [List.length_append, flatN_app, flatN_sing]
  exact ownsRow_setCell_other ho (a := ⟨B, 0, none⟩) (fun he => by have := (ho.lt _ he).1; simp at this <;> omega) _
end Go.Proofs.YtimblabaeclhpaaGreat

/- slices.Clone at nodes. -/
namespace Go.Proofs.YtimblabaeclhpaaGreat
open Go.RowKit Go.Shelf
set_option maxRecDepth 100000 in
set_option maxHeartbeats 1000000 in
theorem cloneN_any (l : List Nd) (A : Option Addr) (c : Nat) (hl : l.length ≤ 1000000) (w : World) (B : Nat) (hB : B ≤ w.heap.size) (r : Nds w B A l) :
    Calls Tryz.prog 18 #[.slice A l.length c] w fun e w' => ∃ v, e = .returned v ∧ w'.ownsRow w.heap.size 67 8 v l.length (flatN l) ∧ Below w.heap.size w w' := by
  cases A with
  | none =>
    have h0 : l.length = 0 := by
      by_cases h : 0 < l.length
      · obtain ⟨_, e, _⟩ := r.2 h; cases e
      · omega
    obtain rfl : l = [] := List.eq_nil_of_length_eq_zero h0
    clear r h0
    have heq := fun w : World => run_eql_slice_nil (P := Tryz.prog) w 28 67 none 0 c Tryz.underlying28
    go_enter Tryz.func18, Tryz.ntmps18
    go_wp2_with fail
    go_ret
    exact ⟨_, rfl, World.ownsRow_nil _ _ _ _, Below.refl _ _⟩
  | some a =>
    have HP := hid (r.below ((Below.refl B w).alloc hB (.cells #[] 67)))
    have hown : (w.alloc (.cells #[] 67)).ownsRow w.heap.size 67 8 (.slice (some ⟨w.heap.size, 0, none⟩) 0 0) 0 [] := own_lit w _ #[] (Nat.le_refl _) rfl (by decide)
    have HO := hid hown
    clear r hown
    unfold Nds at HP
    obtain ⟨n, hn⟩ : ∃ n, n = l.length := ⟨_, rfl⟩
    rw [← hn] at HP hl ⊢
    clear hn
    have heq := fun w : World => run_eql_slice_nil (P := Tryz.prog) w 28 67 (some a) n c Tryz.underlying28
    go_enter Tryz.func18, Tryz.ntmps18
    go_wp2_with (first | (at_builtin; refine app_rdS rfl (.tmp 5) (.tmp 6) Tryz.underlying28 Tryz.infoNode rfl (by decide) (by decide) rfl w.heap.size _ 0 [] rfl HO.out (some a) n c B (flatN l) rfl HP.out (fun u hu => flatN_one hu) (by omega) (by simp) ?_; intro v4 w4 ho4 hg4; have HB4 := hid (below_app ((Below.refl w.heap.size w).alloc (Nat.le_refl _) _) HO.out hg4 (Nat.le_refl _) (by simp)); have HO4 := hid ho4; clear ho4 hg4))
    go_ret
    have h4 := HO4.out
    rw [Nat.zero_add, List.nil_append] at h4
    exact ⟨_, rfl, h4, HB4.out⟩
end Go.Proofs.YtimblabaeclhpaaGreat

/- groups.Mirror. -/
namespace Go.Proofs.YtimblabaeclhpaaGreat
open Go.RowKit Go.Shelf
theorem own_some {w : World} {base n size : Nat} {e : TypeId} {v : Value} {xs : List Value} (h : w.ownsRow base e size v n xs) (hn : 0 < n) : ∃ g c, v = .slice (some ⟨g, 0, none⟩) n c ∧ base ≤ g ∧ g < w.heap.size := by
  rcases h.2 with ⟨_, h2⟩ | ⟨g, cap, cur, hv, hg, hh, _⟩
  · omega
  · exact ⟨g, cap, hv, hg, lt_of_block hh⟩
/-- A node of a row of the call's own. -/
theorem own_nd {w : World} {base g n c : Nat} {l : List Nd} (h : w.ownsRow base 67 8 (.slice (some ⟨g, 0, none⟩) n c) n (flatN l)) (hl : l.length = n) {k : Nat} (hk : k < l.length) : NdAt w g (k * 8) l[k] := by
  have hx : ∀ j u, j < 8 → (l[k].cells)[j]? = some u → w.cell? ⟨g, k * 8 + j, none⟩ = some u := fun j u hj hu => by
    rw [h.cellAt _ (by omega), flatN_get l k j hk hj]
    exact hu
  exact ⟨hx 0 _ (by omega) rfl, hx 1 _ (by omega) rfl, hx 2 _ (by omega) rfl, hx 3 _ (by omega) rfl, hx 4 _ (by omega) rfl, hx 5 _ (by omega) rfl, hx 6 _ (by omega) rfl, hx 7 _ (by omega) rfl⟩
/-- A cell of a node of such a row is stored, behind some boxes that were made. -/
theorem own_set {w w3 : World} {base g n c : Nat} {f : Nd → Nd} {l : List Nd} {k j : Nat} {u : Value} (h : w.ownsRow base 67 8 (.slice (some ⟨g, 0, none⟩) n c) n (flatN (mixN f l k))) (hb : Below w.heap.size w w3) (hk : k < l.length) (hj : j < 8) (hu : (f l[k]).cells = (l[k].cells).set j u) :
    (w3.setCell ⟨g, k * 8 + j, none⟩ u).ownsRow base 67 8 (.slice (some ⟨g, 0, none⟩) n c) n (flatN (mixN f l (k + 1))) := by
  have h1 := ((own_keep h hb).stored (k * 8 + j) u).1
  rw [flatN_set (mixN f l k) k j u (f l[k]) (by rw [mixN_len]; exact hk) hj (by rw [mixN_get hk]; exact hu), mixN_set hk] at h1
  exact h1
set_option maxRecDepth 100000 in
set_option maxHeartbeats 8000000 in
theorem mirrorE_any (P : Int) (ss : List Sg) (l : List Nd) (hN : ss.length ≤ 1000000) (hv : ∀ s ∈ ss, s.vals.length ≤ 1000000 ∧ s.vals.length ≤ s.vc) (hn : l.length ≤ 1000000) (A A2 : Option Addr) (c c2 : Nat) (w : World) (rs : Sgs w w.heap.size A ss) (rn : Nds w w.heap.size A2 l) :
    Calls Tryz.prog 8 #[.agg #[.int .i64 P, .slice A ss.length c], .agg #[.slice A2 l.length c2]] w (TxtPost (chkE P ss l) (mrrL P ss l) w) := by
  obtain ⟨w1, hw1⟩ : ∃ w1, w1 = ((w.alloc (.cells #[.int .i64 P, .slice A ss.length c] 24)).alloc (.cells #[.slice A2 l.length c2] 30)).alloc (.cells #[.slice none 0 0] 30) := ⟨_, rfl⟩
  have hb1 : Below w.heap.size w w1 := by rw [hw1]; exact (((Below.refl _ _).alloc (Nat.le_refl _) _).alloc (by simp) _).alloc (by simp; omega) _
  have hz1 : w1.heap.size = w.heap.size + 3 := by rw [hw1]; simp
  have c0 : w1.cell? ⟨w.heap.size, 0, none⟩ = some (.int .i64 P) := by rw [hw1]; exact cell_old (cell_old (cell_here rfl rfl))
  have c1 : w1.cell? ⟨w.heap.size, 1, none⟩ = some (.slice A ss.length c) := by rw [hw1]; exact cell_old (cell_old (cell_here rfl rfl))
  have c3 : w1.cell? ⟨w.heap.size + 1, 0, none⟩ = some (.slice A2 l.length c2) := by rw [hw1]; exact cell_old (cell_here (by simp) rfl)
  have c4 : w1.cell? ⟨w.heap.size + 2, 0, none⟩ = some (.slice none 0 0) := by rw [hw1]; exact cell_here (by simp) rfl
  have z4 : w1.frozen? ⟨w.heap.size + 2, 0, none⟩ = false := by rw [hw1]; exact free_here (by simp)
  have HCK := hid (check_any P ss l hN hv hn A A2 c c2 w1 ((rs.below hb1).more (by omega)) ((rn.below hb1).more (by omega)))
  have HGD := hid fun (h : chkE P ss l = 0) => (good_of (chkE_zero h).2.2.1).deps
  have HSI := hid fun (h : chkE P ss l = 0) (k : Nat) (hk : k < l.length) (hk1 : kd l k = 1) => (show ∃ s : Nat, (nd l k).sign = s ∧ s < ss.length from by
    rw [kd_at hk] at hk1
    have := sign_ok h hk hk1
    rw [nd_at hk]
    exact ⟨l[k].sign.toNat, by omega, by omega⟩)
  have HCL := hid fun (h : chkE P ss l = 0) (W : World) (hb : Below w.heap.size w W) => cloneN_any l A2 c2 hn W w.heap.size hb.size (rn.below hb)
  have m1 := mrrL_bad (P := P) (ss := ss) (l := l); have m2 := mrrL_ok (P := P) (ss := ss) (l := l)
  generalize mrrL P ss l = L at m1 m2 ⊢
  generalize chkE P ss l = CE at HCK m1 m2 HGD HSI HCL
  have M1 := hid m1; have M2 := hid m2
  clear m1 m2
  obtain ⟨N, hNN⟩ : ∃ N, N = ss.length := ⟨_, rfl⟩
  rw [← hNN] at HCK c1 hw1 hN ⊢
  obtain ⟨n, hnn⟩ : ∃ n, n = l.length := ⟨_, rfl⟩
  rw [← hnn] at HCK c3 hw1 hn HGD HSI HCL ⊢
  try rw [← hnn] at M2
  have HW1 := hid hw1; have HB1 := hid hb1; have HR := hid rn; have HRS := hid rs; have HNN := hid hnn; have HNS := hid hNN
  have hzz : w.heap.size + 1 < w1.heap.size := by omega
  have hzy : w.heap.size + 2 < w1.heap.size := by omega
  have hzx : w.heap.size < w1.heap.size := by omega
  have HC1 := hid fun (wr : World) (h : Below w1.heap.size w1 wr) => (h.cell (p := ⟨w.heap.size, 1, none⟩) hzx).trans c1
  have HC3 := hid fun (wr : World) (h : Below w1.heap.size w1 wr) => (h.cell (p := ⟨w.heap.size + 1, 0, none⟩) hzz).trans c3
  have HC4 := hid fun (wr : World) (h : Below w1.heap.size w1 wr) => (h.cell (p := ⟨w.heap.size + 2, 0, none⟩) hzy).trans c4
  have HZ4 := hid fun (wr : World) (h : Below w1.heap.size w1 wr) => (h.frozen (p := ⟨w.heap.size + 2, 0, none⟩) hzy).trans z4
  have HW : Hid (∀ wr, Below w1.heap.size w1 wr → Below w.heap.size w wr) := fun wr h => hb1.trans (h.mono (by omega))
  clear hw1 hb1 hz1 rs rn hv hnn hNN
  go_enter Tryz.func8, Tryz.ntmps8
  go_upto_region 1 with (fail)
  simp only [Nat.add_assoc, Nat.reduceAdd]
  rw [← HW1.out]
  clear HW1
  obtain ⟨B0, hB0⟩ : ∃ B0, B0 = w.heap.size := ⟨_, rfl⟩
  obtain ⟨B1, hB1⟩ : ∃ B1, B1 = B0 + 1 := ⟨_, rfl⟩
  obtain ⟨B2, hB2⟩ : ∃ B2, B2 = B0 + 2 := ⟨_, rfl⟩
  rw [← hB0, ← hB1] at c3 HC3 hzz
  rw [← hB0, ← hB2] at c4 z4 HC4 HZ4 hzy
  rw [← hB0] at c0 c1 HC1 hzx
  have HB0 := hid hB0
  rw [← hB0, ← hB1, ← hB2]
  have hlt : w.heap.size ≤ B2 := by omega
  have hb0 : B0 < B1 := by omega
  have hb2 : B1 < B2 := by omega
  clear hB1 hB2 hB0
  by_cases hCE : CE = 0
  · have f0 : (CE != 0) = false := by simp [hCE]
    have x2 := M2.out hCE
    replace HGD := hid (HGD.out hCE)
    replace HSI := hid (HSI.out hCE)
    replace HCL := hid (HCL.out hCE)
    have X2 := hid x2
    clear M1 M2 x2
    subst hCE
    go_wp2_with (first | (go_at_call 17; refine HCK.out.mono ?_; rintro e w2 ⟨rfl, hb2'⟩; have p1 := HC1.out w2 hb2'; have p3 := HC3.out w2 hb2'; have p3a := fun X => HC3.out (w2.alloc X) (hb2'.alloc hb2'.size X); have HB2 := hid hb2'; clear hb2' HCK c0 c1 c3 c4 z4) | (go_at_call 18; refine (HCL.out _ (HW.out _ HB2.out)).mono ?_; rintro e w5 ⟨v5, rfl, ho5, hb5⟩; obtain ⟨A5, c5, rfl⟩ := own_slice ho5; have HO5 := hid ho5; have HB5 := hid hb5; clear ho5 hb5))
    have hZ2 := HB2.out.size
    clear p1 p3 p3a
    go_loopw [22] (fun kv wr => ∃ k : Nat, k ≤ n ∧ kv = .int .i64 k ∧ Hid (wr.ownsRow w2.heap.size 67 8 (.slice A5 n c5) n (flatN (mixN (mirN ss) l k))) ∧ Hid (Below w2.heap.size w2 wr)) (fun kv _ => n - (intOf kv).toNat)
    case atStart => exact ⟨0, by omega, rfl, by rw [mixN_0]; exact HO5, HB5⟩
    case round =>
      obtain ⟨k, hk, rfl, hO, hB⟩ := hrel
      have hbw : Below w1.heap.size w1 wr := HB2.out.trans (hB.out.mono hZ2)
      by_cases hkn : k < n
      · have hkl : k < l.length := by rw [← HNN.out]; exact hkn
        obtain ⟨g, c6, hv5, hgb, hgl⟩ := own_some hO.out (by omega)
        simp only [Value.slice.injEq, true_and] at hv5
        obtain ⟨rfl, rfl⟩ := hv5
        have hml := mixN_len (mirN ss) l k
        have hx := own_nd hO.out (by rw [hml]; exact HNN.out.symm) (k := k) (by rw [hml]; exact hkl)
        rw [mixN_get hkl] at hx
        have hsg := HSI.out k (by rw [HNN.out]; exact hkl)
        rw [kd_at hkl, nd_at hkl] at hsg
        have hset := fun (X : Obj) (u : Value) (h : (mirN ss l[k]).cells = (l[k].cells).set 4 u) => own_keep (own_set (j := 4) (f := mirN ss) hO.out (Below.refl _ _) hkl (by decide) h) ((Below.refl _ _).alloc (Nat.le_refl _) X)
        have hsame := fun (h : mirN ss l[k] = l[k]) => mixN_same (f := mirN ss) hkl h
        have zz := fun (X : Obj) => free_old (o := X) hgl (hO.out.frozenAt (k * 8 + 4))
        have hnew := fun (X : Obj) => hB.out.alloc hB.out.size X
        have hnes := fun (X : Obj) (u : Value) => (hB.out.setCell (show w2.heap.size ≤ (⟨g, k * 8 + 4, none⟩ : Addr).block from hgb) u).alloc (hB.out.setCell (show w2.heap.size ≤ (⟨g, k * 8 + 4, none⟩ : Addr).block from hgb) u).size X
        have hkeep := fun (X : Obj) => own_keep hO.out ((Below.refl wr.heap.size wr).alloc (Nat.le_refl _) X)
        generalize l[k]'hkl = nd0 at hx hsg hset hsame
        obtain ⟨kk, dp, sg, tn, mi, st, mn, mx⟩ := nd0
        have d1 := hx.kind; have d2 := hx.depth; have d3 := hx.sign; have d4 := hx.turn; have d5 := hx.mir; have d6 := hx.state; have d7 := hx.mn; have d8 := hx.mx
        simp only [] at d1 d2 d3 d4 d5 d6 d7 d8 hsg
        have g0 : (k : Int) < (n : Int) := by omega
        have HNW := hid hnew; have HNE := hid hnes; have HKP := hid hkeep
        clear hx hnew hnes hkeep hml
        by_cases h1 : kk = 1
        · have f1 : (kk == 1) = true := by simp [h1]
          obtain ⟨s, hs, hsl⟩ := hsg h1
          subst hs
          rw [← HNS.out] at hsl
          have hsl2 : (s : Int) < (N : Int) := by omega
          obtain ⟨b1, o1, rfl, hb1', hs3⟩ := HRS.out.at (by rw [← HNS.out]; omega)
          have pe := fun (X : Obj) => ((HW.out _ (hbw.alloc hbw.size X)).cell (p := ⟨b1, o1 + s * 5 + 3, none⟩) hb1').trans (hs3 s (by rw [← HNS.out]; exact hsl)).even
          simp only [← even_at] at pe
          generalize hev : evenOf ss (s : Int) = ev at pe
          have q1 := fun (X : Obj) => HC1.out (wr.alloc X) (hbw.alloc hbw.size X)
          cases ev with
          | true =>
            have HSA := hid (hsame (by simp [mirN, hev]))
            clear hsg hset hsame hs3 hev h1 hsl zz
            go_wp2_with fail
            go_roundw
            case rel => exact ⟨k + 1, by omega, by go_num, by rw [← HSA.out]; exact hid (HKP.out _), hid (HNW.out _)⟩
            case measure => simp [intOf]; omega
          | false =>
            have HSE := hid (fun (X : Obj) => hset X (.bool (!mi)) (by simp [mirN, hev, h1, Nd.cells]))
            clear hsg hset hsame hs3 hev h1 hsl
            go_wp2_with fail
            go_roundw
            case rel => exact ⟨k + 1, by omega, by go_num, hid (HSE.out _), hid (HNE.out _ _)⟩
            case measure => simp [intOf]; omega
        · have f1 : (kk == 1) = false := by simp [h1]
          have HSA := hid (hsame (by simp [mirN, h1]))
          clear hsg hset hsame h1 zz
          go_wp2_with fail
          go_roundw
          case rel => exact ⟨k + 1, by omega, by go_num, by rw [← HSA.out]; exact hid (HKP.out _), hid (HNW.out _)⟩
          case measure => simp [intOf]; omega
      · obtain rfl : n = k := by omega
        have g0 : decide (n < n) = false := by simp
        have p4 := HC4.out wr hbw; have z4 := HZ4.out wr hbw
        have hm := mixN_all (mirN ss) l
        rw [← HNN.out] at hm
        have hO2 := hO.out
        rw [hm, ← X2.out] at hO2
        have HLL : Hid (L.length = n) := by rw [X2.out, List.length_map]; exact HNN.out.symm
        have HO := hid hO2; have HBW := hid hbw
        clear hO hbw hm hO2
        go_wp2_with fail
        have hq := World.cell?_setCell_same _ _ (.slice A5 n c5) p4
        exact bodyPost_ret (v := .tuple #[.agg #[.slice A5 n c5], .int .i64 0]) (by simp [results, Tryz.results8, go_sem, hq]) rfl ⟨.slice A5 n c5, rfl, by rw [HLL.out]; have h9 := HO.out; exact own_base (ownsRow_setCell_other h9 (a := ⟨B2, 0, none⟩) (fun he => by have := (h9.lt _ he).1; simp at this <;> omega) _) (by omega), (HW.out _ HBW.out).setCell hlt _⟩
  · have f0 : (CE != 0) = true := by simp [hCE]
    have x2 := M1.out hCE
    have X2 := hid x2
    clear x2
    clear M1 M2 hCE
    go_wp2_with (first | (go_at_call 17; refine HCK.out.mono ?_; rintro e w2 ⟨rfl, hb2'⟩; have p4 := HC4.out w2 hb2'; have q4 := HZ4.out w2 hb2'; have HB2 := hid hb2'; clear hb2' HCK c0 c1 c3 c4 z4))
    have hq := World.cell?_setCell_same _ _ (.slice none 0 0) p4
    exact bodyPost_ret (v := .tuple #[.agg #[.slice none 0 0], .int .i64 CE]) (by simp [results, Tryz.results8, go_sem, hq]) rfl ⟨.slice none 0 0, rfl, by rw [X2.out]; exact World.ownsRow_nil _ _ _ _, (HW.out _ HB2.out).setCell hlt _⟩
end Go.Proofs.YtimblabaeclhpaaGreat

/- groups.part, ostraconref02.Below: a node and all below it. -/
namespace Go.Proofs.YtimblabaeclhpaaGreat
open Go.RowKit Go.Shelf
end Go.Proofs.YtimblabaeclhpaaGreat

/- PLAIN LAW: some groups of a text are replaced. -/
namespace Go.Proofs.YtimblabaeclhpaaGreat
/-- Where group i begins; behind the last: the end of the text. -/
def posG (l : List Nd) (i : Nat) : Nat := (kidsOf l (-1) ++ [l.length]).getD i l.length
theorem kf_pos {l : List Nd} : ∀ (m k : Nat), l.length ≤ m + k → k ≤ l.length →
    (kidsFrom l l.length k ++ [l.length])[0]? = some k ∧ ∀ i (h : i < (kidsFrom l l.length k).length), (kidsFrom l l.length k ++ [l.length])[i + 1]? = some (endOf l (kidsFrom l l.length k)[i])
  | 0, k, h1, h2 => by
    obtain rfl : k = l.length := by omega
    rw [kidsFrom_stop (by omega)]
    exact ⟨rfl, fun i h => by simp at h⟩
  | m + 1, k, h1, h2 => by
    by_cases h : k < l.length
    · have hgt := endOf_gt l k
      obtain ⟨a1, a2⟩ := kf_pos (l := l) m (endOf l k) (by omega) (endOf_le h)
      rw [kidsFrom_s h]
      refine ⟨rfl, fun i hi => ?_⟩
      cases i with
      | zero =>
        rw [List.cons_append, List.getElem?_cons_succ, a1]
        rfl
      | succ i =>
        rw [List.cons_append, List.getElem?_cons_succ, a2 i (by simpa using hi)]
        rfl
    · rw [kidsFrom_stop h]
      obtain rfl : k = l.length := by omega
      exact ⟨rfl, fun i h => by simp at h⟩
theorem kidsOf_top (l : List Nd) : kidsOf l (-1) = kidsFrom l l.length 0 := rfl
theorem posG_0 (l : List Nd) : posG l 0 = 0 := by
  unfold posG
  rw [kidsOf_top, List.getD_eq_getElem?_getD, (kf_pos (l := l) l.length 0 (by omega) (by omega)).1]
  rfl
theorem posG_at {l : List Nd} {i : Nat} (h : i < (kidsOf l (-1)).length) : posG l i = (kidsOf l (-1))[i] := by
  unfold posG
  rw [List.getD_eq_getElem?_getD, List.getElem?_append_left h, List.getElem?_eq_getElem h]
  rfl
theorem posG_s {l : List Nd} {i : Nat} (h : i < (kidsOf l (-1)).length) : posG l (i + 1) = endOf l (posG l i) := by
  rw [posG_at h]
  unfold posG
  have hq : (kidsOf l (-1) ++ [l.length])[i + 1]? = some (endOf l (kidsOf l (-1))[i]) := (kf_pos (l := l) l.length 0 (by omega) (by omega)).2 i h
  rw [List.getD_eq_getElem?_getD, hq]
  rfl
theorem posG_end (l : List Nd) : posG l (kidsOf l (-1)).length = l.length := by
  unfold posG
  rw [List.getD_eq_getElem?_getD, List.getElem?_append_right (Nat.le_refl _)]
  simp
theorem posG_lt {l : List Nd} {i : Nat} (h : i < (kidsOf l (-1)).length) : posG l i < l.length := by
  rw [posG_at h]
  have := (kidsOf_mem (l := l) (node := -1) (by omega) (by omega) (List.getElem_mem h)).2
  omega
theorem posG_le {l : List Nd} {i : Nat} (h : i ≤ (kidsOf l (-1)).length) : posG l i ≤ l.length := by
  rcases Nat.eq_or_lt_of_le h with rfl | h
  · rw [posG_end]; exact Nat.le_refl _
  · exact Nat.le_of_lt (posG_lt h)
theorem posG_mono {l : List Nd} {i : Nat} : ∀ n, i + n ≤ (kidsOf l (-1)).length → posG l i ≤ posG l (i + n)
  | 0, _ => Nat.le_refl _
  | n + 1, h => by
    refine Nat.le_trans (posG_mono n (by omega)) ?_
    rw [← Nat.add_assoc, posG_s (by omega)]
    exact Nat.le_of_lt (endOf_gt _ _)
theorem posG_mono' {l : List Nd} {i j : Nat} (h : i ≤ j) (hj : j ≤ (kidsOf l (-1)).length) : posG l i ≤ posG l j := by
  obtain ⟨n, rfl⟩ : ∃ n, j = i + n := ⟨j - i, by omega⟩
  exact posG_mono n hj
end Go.Proofs.YtimblabaeclhpaaGreat

/- WALK: slices.Grow of nothing, slices.Concat of rows of nodes. -/
namespace Go.Proofs.YtimblabaeclhpaaGreat
open Go.RowKit
end Go.Proofs.YtimblabaeclhpaaGreat
