/- PLAIN LAW: the rectangle around boxes. -/
import Derived.Test.YtfkcpcdndleboaaCrossW
import Derived.Test.YtfkcpcdndleboaaBoxesW
import Derived.Test.YtfkcpcdndleboaaGenA
namespace Go.Proofs.Ytfkcpcdndleboaa
open Go.RowKit
structure Ext where
  x : Fr
  y : Fr
  r : Fr
  l : Fr
def exS (e : Ext) (b : Bxv) : Ext := ⟨minF e.x b.x, minF e.y b.y, maxF e.r b.xe, maxF e.l b.ye⟩
def ex0 (b : Bxv) : Ext := ⟨b.x, b.y, b.xe, b.ye⟩
/-- The least and the greatest of the first boxes. -/
def exF (L : List Bxv) : Nat → Ext
  | 0 => ex0 (L.getD 0 bx0)
  | j + 1 => exS (exF L j) (L.getD j bx0)
theorem minF_self (a : Fr) : minF a a = a := by unfold minF; split <;> rfl
theorem maxF_self (a : Fr) : maxF a a = a := by unfold maxF; split <;> rfl
theorem exF_1 (L : List Bxv) : exF L 1 = ex0 (L.getD 0 bx0) := by
  show exS (ex0 (L.getD 0 bx0)) (L.getD 0 bx0) = _
  unfold exS ex0
  rw [minF_self, minF_self, maxF_self, maxF_self]
structure ExOk (e : Ext) : Prop where
  x : e.x.ok
  y : e.y.ok
  r : e.r.ok
  l : e.l.ok
theorem ex0_ok {b : Bxv} (h : b.placed) : ExOk (ex0 b) := ⟨h.x, h.y, h.xe, h.ye⟩
theorem exS_ok {e : Ext} {b : Bxv} (he : ExOk e) (h : b.placed) : ExOk (exS e b) := by
  refine ⟨?_, ?_, ?_, ?_⟩
  · show (minF e.x b.x).ok; unfold minF; split; exact h.x; exact he.x
  · show (minF e.y b.y).ok; unfold minF; split; exact h.y; exact he.y
  · show (maxF e.r b.xe).ok; unfold maxF; split; exact h.xe; exact he.r
  · show (maxF e.l b.ye).ok; unfold maxF; split; exact h.ye; exact he.l
theorem exF_ok {L : List Bxv} (h : ∀ b ∈ L, b.placed) (h0 : 0 < L.length) : ∀ j, j ≤ L.length → ExOk (exF L j)
  | 0, _ => by
    have e : L.getD 0 bx0 = L[0] := by rw [List.getD_eq_getElem?_getD, List.getElem?_eq_getElem h0]; rfl
    show ExOk (ex0 (L.getD 0 bx0))
    rw [e]
    exact ex0_ok (h _ (List.getElem_mem h0))
  | j + 1, hj => by
    have e : L.getD j bx0 = L[j] := by rw [List.getD_eq_getElem?_getD, List.getElem?_eq_getElem (by omega)]; rfl
    show ExOk (exS (exF L j) (L.getD j bx0))
    rw [e]
    exact exS_ok (exF_ok h h0 j (by omega)) (h _ (List.getElem_mem (by omega)))
theorem ok_prd {a b : Fr} (h : a.ok) (k : b.ok) : PrdOk a b := h.num.prd k.num (by decide) (by decide) (by decide)
theorem ok_abs {a : Fr} (h : a.ok) : a.n.natAbs ≤ 1152921504606846976 := by have := h.num.n1; omega
def z0 : Fr := ⟨0, 0⟩
/-- What Extent answers: four fractions and an error. -/
noncomputable def extV (L : List Bxv) : Ext × Int :=
  if chB L ≠ 0 then (⟨z0, z0, z0, z0⟩, chB L) else if L.length = 0 then (⟨z0, z0, z0, z0⟩, 3) else
    @ite _ (((exF L L.length).r.sub (exF L L.length).x).ok ∧ ((exF L L.length).l.sub (exF L L.length).y).ok) (Classical.propDecidable _) (⟨(exF L L.length).x, (exF L L.length).y, (exF L L.length).r.sub (exF L L.length).x, (exF L L.length).l.sub (exF L L.length).y⟩, 0) (⟨z0, z0, z0, z0⟩, 41)
/-- Four stores. -/
def st4 (W : World) (a b c d : Nat) (x y z u : Fr) : World :=
  (((((((W.setCell ⟨a, 0, none⟩ (.int .i64 x.n)).setCell ⟨a, 1, none⟩ (.int .i64 x.d)).setCell ⟨b, 0, none⟩ (.int .i64 y.n)).setCell ⟨b, 1, none⟩ (.int .i64 y.d)).setCell ⟨c, 0, none⟩ (.int .i64 z.n)).setCell ⟨c, 1, none⟩ (.int .i64 z.d)).setCell ⟨d, 0, none⟩ (.int .i64 u.n)).setCell ⟨d, 1, none⟩ (.int .i64 u.d)
structure Fr4 (W : World) (a b c d : Nat) (x y z u : Fr) : Prop where
  a : FrB W a x
  b : FrB W b y
  c : FrB W c z
  d : FrB W d u
theorem Fr4.below {W W' : World} {a b c d : Nat} {x y z u : Fr} (h : Fr4 W a b c d x y z u) (hb : Below W.heap.size W W') : Fr4 W' a b c d x y z u := ⟨h.a.below hb, h.b.below hb, h.c.below hb, h.d.below hb⟩
theorem Fr4.set {W : World} {a b c d : Nat} {x y z u x' y' z' u' : Fr} (h : Fr4 W a b c d x y z u) (ab : a ≠ b) (ac : a ≠ c) (ad : a ≠ d) (bc : b ≠ c) (bd : b ≠ d) (cd : c ≠ d) : Fr4 (st4 W a b c d x' y' z' u') a b c d x' y' z' u' := by
  unfold st4
  refine ⟨?_, ?_, ?_, ?_⟩
  · exact ((((((h.a.set (g := x')).far (Ne.symm ab)).far (Ne.symm ab)).far (Ne.symm ac)).far (Ne.symm ac)).far (Ne.symm ad)).far (Ne.symm ad)
  · exact (((((h.b.far ab).far ab).set (g := y')).far (Ne.symm bc)).far (Ne.symm bc) |>.far (Ne.symm bd)).far (Ne.symm bd)
  · exact ((((((h.c.far ac).far ac).far bc).far bc).set (g := z')).far (Ne.symm cd)).far (Ne.symm cd)
  · exact (((((h.d.far ad).far ad).far bd).far bd).far cd |>.far cd).set (g := u')
theorem FrB.st4 {W : World} {k a b c d : Nat} {f x y z u : Fr} (h : FrB W k f) (h1 : a ≠ k) (h2 : b ≠ k) (h3 : c ≠ k) (h4 : d ≠ k) : FrB (st4 W a b c d x y z u) k f := by
  unfold Go.Proofs.Ytfkcpcdndleboaa.st4
  exact (((((((h.far h1).far h1).far h2).far h2).far h3).far h3).far h4).far h4
theorem Below.st4 {B : Nat} {w W : World} {a b c d : Nat} {x y z u : Fr} (h : Below B w W) (h1 : B ≤ a) (h2 : B ≤ b) (h3 : B ≤ c) (h4 : B ≤ d) : Below B w (Go.Proofs.Ytfkcpcdndleboaa.st4 W a b c d x y z u) := by
  unfold Go.Proofs.Ytfkcpcdndleboaa.st4
  exact (((((((h.setCell h1 _).setCell h1 _).setCell h2 _).setCell h2 _).setCell h3 _).setCell h3 _).setCell h4 _).setCell h4 _
end Go.Proofs.Ytfkcpcdndleboaa

/- UTIL: a region that draws its order: loads that may come late, between stores that do not touch what they read. -/
namespace Go.Proofs.Ytfkcpcdndleboaa
open Go.RowKit
section
variable {P : Program} {ops : Array Oper} {md : Region.Mode} {ws : Nat → World}
/-- An operation yields this value and leaves the world as it is, behind any number of stores. -/
def PureC (P : Program) (ws : Nat → World) (o : Oper) (v : Value) (a : Act) : Prop := o.guard = none ∧ ∀ k, (execOp a.eval o).run P (ws k) = .ok (.value v) (ws k)
/-- The next store. -/
def StoC (P : Program) (ws : Nat → World) (o : Oper) (a : Act) (k : Nat) : Prop := o.guard = none ∧ o.dst = none ∧ (execOp a.eval o).run P (ws k) = .ok .skip (ws (k + 1))
def ZOp (P : Program) (ops : Array Oper) (ws : Nat → World) (i : Nat) (K : Act → Nat → Prop) (a : Act) (k : Nat) : Prop :=
  ∃ o, ops[i]? = some o ∧ ((∃ v, PureC P ws o v a ∧ K (a.put o.dst v) k) ∨ (StoC P ws o a k ∧ K a (k + 1)))
theorem ZOp.wp {i : Nat} {K : Act → Nat → Prop} {a : Act} {k : Nat} {Q : Exit → Act → World → Prop} (hx : ZOp P ops ws i K a k) {K' : Act → World → Prop} (h : ∀ a k, K a k → K' a (ws k)) : wpOp P ops Q i K' a (ws k) := by
  obtain ⟨o, ho, hx⟩ := hx
  have hg : o.guard = none := by
    rcases hx with ⟨v, h1, _⟩ | ⟨h1, _⟩
    · exact h1.1
    · exact h1.1
  unfold wpOp
  have hwt : Region.wanted o (yielded ops a.tmps) = true := by simp [Region.wanted, hg]
  simp only [ho, hwt, if_true]
  left
  unfold Oper.wp
  rcases hx with ⟨v, h1, h2⟩ | ⟨h1, h2⟩
  · rw [h1.2 k]
    exact h _ _ h2
  · rw [h1.2.2]
    show K' (a.put o.dst undef) (ws (k + 1))
    rw [h1.2.1]
    exact h _ _ h2
def HZ (P : Program) (md : Region.Mode) (ops : Array Oper) (ws : Nat → World) (L : Array Bool → Act → Nat → Prop) : Nat → Array Bool → Act → Nat → Prop
  | 0, listed, a, k => L listed a k
  | f + 1, listed, a, k => Region.ready md ops listed ≠ [] ∧ ∀ i ∈ Region.ready md ops listed, ZOp P ops ws i (fun a' k' => HZ P md ops ws L f (listed.setIfInBounds i true) a' k') a k
theorem HZ.any {L : Array Bool → Act → Nat → Prop} {Q' : Exit → Act → World → Prop} (hL : ∀ listed a k, L listed a k → Region.ready md ops listed = [] ∧ Q' .normal a (ws k)) :
    ∀ (f : Nat) (listed : Array Bool) (a : Act) (k : Nat), HZ P md ops ws L f listed a k → wpAny P md ops Q' f listed a (ws k)
  | 0, _, _, _, h => hL _ _ _ h
  | f + 1, _, _, _, h => ⟨fun h0 => absurd h0 h.1, fun i hi => (h.2 i hi).wp fun a' k' h' => HZ.any hL f _ a' k' h'⟩
theorem PureC.of_same {o : Oper} {v : Value} {a a' : Act} (hy : PureC P ws o v a) (he : execOp a'.eval o = execOp a.eval o) : PureC P ws o v a' := ⟨hy.1, fun k => by rw [he]; exact hy.2 k⟩
section
variable {L : Array Bool → Act → Nat → Prop} (hsel : ∀ (j : Nat) (o : Oper) cs b, ops[j]? = some o → o.op ≠ .select cs b) (hdone : ∀ listed a k, L listed a k → Region.ready md ops listed = [])
include hsel hdone
theorem HZ.first {i : Nat} {oi : Oper} {v : Value} (hi : ops[i]? = some oi) : ∀ (f : Nat) (listed : Array Bool) (a : Act) (k : Nat), HeadInv md ops ops.size listed →
      (∀ j oj, ops[j]? = some oj → j ≠ i → listed.getD j true = false → (∀ e ∈ oj.after, Region.binds md e = true → e.on ≠ i) → oi.apart ops oj = true) →
      i ∈ Region.ready md ops listed → PureC P ws oi v a → HZ P md ops ws L f (listed.setIfInBounds i true) (a.put oi.dst v) k → HZ P md ops ws L (f + 1) listed a k := by
  intro f
  have ne : ∀ (listed : Array Bool), i ∈ Region.ready md ops listed → Region.ready md ops listed ≠ [] := fun listed hr h => by rw [h] at hr; cases hr
  induction f with
  | zero =>
    intro listed a k inv _ hr hy H
    refine ⟨ne _ hr, fun j hj => ?_⟩
    by_cases hji : j = i
    · subst hji; exact ⟨oi, hi, .inl ⟨v, hy, H⟩⟩
    · have h1 := ready_mono hj hji
      rw [hdone _ _ _ H] at h1
      cases h1
  | succ f ih =>
    intro listed a k inv hfree hr hy H
    refine ⟨ne _ hr, fun j hj => ?_⟩
    by_cases hji : j = i
    · subst hji; exact ⟨oi, hi, .inl ⟨v, hy, H⟩⟩
    · obtain ⟨oj, hoj, hx⟩ := H.2 j (ready_mono hj hji)
      obtain ⟨hjun, oj', hoj', hall⟩ := mem_ready.1 hj
      rw [hoj] at hoj'
      injection hoj' with hoj'
      subst hoj'
      have hjn : j < ops.size := (Array.getElem?_eq_some_iff.1 hoj).1
      have hun := getD_both (mem_ready.1 hr).1
      have hnot : ∀ e ∈ oj.after, Region.binds md e = true → e.on ≠ i := fun e he hb heq => by
        have h3 := hall e he hb
        rw [heq, hun] at h3
        cases h3
      obtain ⟨h1, h2, h3⟩ := Oper.apart_spec (hfree j oj hoj hji hjun hnot)
      have hsi : ∀ cs b, oi.op ≠ .select cs b := fun cs b => hsel i oi cs b hi
      have hsj : ∀ cs b, oj.op ≠ .select cs b := fun cs b => hsel j oj cs b hoj
      have nxt : ∀ (a' : Act) (k' : Nat), PureC P ws oi v a' → HZ P md ops ws L f ((listed.setIfInBounds i true).setIfInBounds j true) (a'.put oi.dst v) k' → HZ P md ops ws L (f + 1) (listed.setIfInBounds j true) a' k' := fun a' k' hp h => by
        refine ih (listed.setIfInBounds j true) a' k' (inv.set hj hjn) (fun x ok hk hki hku hno => ?_) (ready_mono hr (Ne.symm hji)) hp ?_
        · have hku2 : listed.getD x true = false := by
            by_cases hjk : j = x
            · subst hjk; exact hjun
            · rw [getD_set_ne true hjk] at hku; exact hku
          exact hfree x ok hk hki hku2 hno
        · rw [Array.setIfInBounds_comm _ _ hji]
          exact h
      refine ⟨oj, hoj, ?_⟩
      rcases hx with ⟨u, hu, hK⟩ | ⟨hS, hK⟩
      · refine .inl ⟨u, hu.of_same (execOp_put oj hsj a oi.dst v h1).symm, nxt _ _ (hy.of_same (execOp_put oi hsi a oj.dst u h3)) ?_⟩
        rw [← Act.put_comm a v u h2]
        exact hK
      · refine .inr ⟨⟨hS.1, hS.2.1, ?_⟩, nxt _ _ hy hK⟩
        rw [← execOp_put oj hsj a oi.dst v h1]
        exact hS.2.2
end
/-- The walk in the text's order: first what is only read, then the rest one by one. -/
def wpPure (P : Program) (ws : Nat → World) (Q : Act → Prop) : List Oper → Act → Prop
  | [], a => Q a
  | o :: l, a => ∃ v, PureC P ws o v a ∧ wpPure P ws Q l (a.put o.dst v)
def wpSto (P : Program) (ws : Nat → World) (Q : Act → Nat → Prop) : List Oper → Act → Nat → Prop
  | [], a, k => Q a k
  | o :: l, a, k => (∃ v, PureC P ws o v a ∧ wpSto P ws Q l (a.put o.dst v) k) ∨ (StoC P ws o a k ∧ wpSto P ws Q l a (k + 1))
theorem HZ.tail {Q : Act → Nat → Prop} : ∀ (ts : List Nat) (l : List Oper) (listed : Array Bool) (a : Act) (k : Nat), ts.map (fun i => ops[i]?) = l.map some → tailB md ops ts listed = true → wpSto P ws Q l a k →
    HZ P md ops ws (fun listed a k => Region.ready md ops listed = [] ∧ Q a k) ts.length listed a k
  | [], l, listed, a, k, hl, hB, h => by
    cases l with
    | nil => exact ⟨by simpa [tailB] using hB, h⟩
    | cons o l => simp at hl
  | i :: ts, l, listed, a, k, hl, hB, h => by
    cases l with
    | nil => simp at hl
    | cons o l =>
      simp only [List.map_cons, List.cons.injEq] at hl
      obtain ⟨ho, hl⟩ := hl
      simp only [tailB, Bool.and_eq_true, decide_eq_true_eq] at hB
      obtain ⟨hr, hB⟩ := hB
      refine ⟨by rw [hr]; simp, fun j hj => ?_⟩
      rw [hr] at hj
      obtain rfl : j = i := by simpa using hj
      refine ⟨o, ho, ?_⟩
      rcases h with ⟨v, h1, h2⟩ | ⟨h1, h2⟩
      · exact .inl ⟨v, h1, HZ.tail ts l _ _ _ hl hB h2⟩
      · exact .inr ⟨h1, HZ.tail ts l _ _ _ hl hB h2⟩
theorem HZ.lex {Q : Act → Nat → Prop} (hsel : Region.noSelect ops = true) {ts : List Nat} {lt : List Oper} (ht : ts.map (fun i => ops[i]?) = lt.map some) :
    ∀ (hs : List Nat) (l : List Oper) (listed : Array Bool) (a : Act), hs.map (fun i => ops[i]?) = l.map some → HeadInv md ops ops.size listed → headB md ops hs listed = true → tailB md ops ts (listAll hs listed) = true → wpPure P ws (fun a' => wpSto P ws Q lt a' 0) l a →
      HZ P md ops ws (fun listed a k => Region.ready md ops listed = [] ∧ Q a k) (hs.length + ts.length) listed a 0
  | [], l, listed, a, hl, inv, _, hT, h => by
    cases l with
    | nil =>
      rw [List.length_nil, Nat.zero_add]
      exact HZ.tail ts lt listed a 0 ht hT h
    | cons o l => simp at hl
  | i :: hs, l, listed, a, hl, inv, hB, hT, h => by
    cases l with
    | nil => simp at hl
    | cons o l =>
      simp only [List.map_cons, List.cons.injEq] at hl
      obtain ⟨ho, hl⟩ := hl
      simp only [headB, Bool.and_eq_true] at hB
      obtain ⟨⟨hr, hf⟩, hB⟩ := hB
      obtain ⟨v, hy, h⟩ := h
      have hr' : i ∈ Region.ready md ops listed := by simpa using hr
      have hlt : i < ops.size := (Array.getElem?_eq_some_iff.1 ho).1
      have e : (i :: hs).length + ts.length = (hs.length + ts.length) + 1 := by simp; omega
      rw [e]
      exact HZ.first (Region.noSelect_spec hsel) (fun _ _ _ h => h.1) ho _ listed a 0 inv (Region.free_spec ho hf) hr' hy
        (HZ.lex hsel ht hs l _ _ hl (inv.set hr' hlt) hB hT h)
end
def lateB (l : List Oper) (hs ts : List Nat) : Bool :=
  Region.noSelect l.toArray && headB .any l.toArray hs (Array.replicate l.toArray.size false) && tailB .any l.toArray ts (listAll hs (Array.replicate l.toArray.size false)) &&
  ((hs ++ ts).all fun i => decide (i < l.length)) && decide (hs.length + ts.length = l.length)
/-- THE LAW of a region whose loads may come late. -/
theorem region_late {P : Program} {l : List Oper} {id : Nat} {w : World} {Q : Exit → Act → World → Prop} {a : Act} (hs ts : List Nat) (ws : Nat → World) (hm : P.follows .mixedOrders = true) (hB : lateB l hs ts = true) (hw : ws 0 = w.drew)
    (h : wpPure P ws (fun a' => wpSto P ws (fun a k => Q .normal a (ws k)) (ts.map fun i => l.getD i default) a' 0) (hs.map fun i => l.getD i default) a) : (Code.region id l.toArray true).wp P Q a w := by
  simp only [lateB, Bool.and_eq_true, decide_eq_true_eq] at hB
  obtain ⟨⟨⟨⟨hsel, hhead⟩, htail⟩, hlt⟩, hlen⟩ := hB
  have hlt1 : ∀ i ∈ hs ++ ts, i < l.length := fun i hi => by simpa using List.all_eq_true.1 hlt i hi
  have H := HZ.lex (md := .any) (ws := ws) (P := P) (Q := fun a k => Q .normal a (ws k)) hsel (map_getD ts fun i hi => hlt1 i (by simp [hi])) hs _ _ a (map_getD hs fun i hi => hlt1 i (by simp [hi])) headInv0 hhead htail h
  refine wp_region_any hm ?_
  have hz := HZ.any (Q' := Q) (fun _ _ _ h => h) (hs.length + ts.length) _ a 0 H
  have e : hs.length + ts.length = l.toArray.size := by
    have : l.toArray.size = l.length := by simp
    omega
  rw [e, hw] at hz
  exact hz
end Go.Proofs.Ytfkcpcdndleboaa

/- UTIL: loads and stores of fractions in a region whose loads may come late. -/
namespace Go.Proofs.Ytfkcpcdndleboaa
open Go.RowKit
section
variable {ws : Nat → World} {Q : Act → Prop} {Q2 : Act → Nat → Prop} {o : Oper} {l : List Oper} {a : Act}
theorem pure_move (hg : o.guard = none) (x : Operand) (ho : o.op = .move x) (h : wpPure Try.prog ws Q l (a.put o.dst (a.eval x))) : wpPure Try.prog ws Q (o :: l) a := by
  refine ⟨_, ⟨hg, fun k => ?_⟩, h⟩
  unfold execOp
  simp [ho, go_sem]
theorem pure_load (hg : o.guard = none) (x : Operand) (ho : o.op = .load 52 x) (b of : Nat) (f : Fr) (hx : a.eval x = .pointer (some ⟨b, of, none⟩)) (hc : ∀ k, (ws k).cell? ⟨b, of, none⟩ = some (.int .i64 f.n) ∧ (ws k).cell? ⟨b, of + 1, none⟩ = some (.int .i64 f.d))
    (h : wpPure Try.prog ws Q l (a.put o.dst (.agg #[.int .i64 f.n, .int .i64 f.d]))) : wpPure Try.prog ws Q (o :: l) a := by
  refine ⟨_, ⟨hg, fun k => ?_⟩, h⟩
  unfold execOp
  simp only [ho, hx]
  simp [go_sem, (hc k).1, (hc k).2]
theorem pure_fld7 (hg : o.guard = none) (x : Operand) (ho : o.op = .fieldAddr 54 x 7) (b : Nat) (hx : a.eval x = .pointer (some ⟨b, 0, none⟩)) (h : wpPure Try.prog ws Q l (a.put o.dst (.pointer (some ⟨b, 7, none⟩)))) : wpPure Try.prog ws Q (o :: l) a := by
  refine ⟨_, ⟨hg, fun k => ?_⟩, h⟩
  unfold execOp
  simp only [ho, hx]
  simp [go_sem]
theorem pure_fld8 (hg : o.guard = none) (x : Operand) (ho : o.op = .fieldAddr 54 x 8) (b : Nat) (hx : a.eval x = .pointer (some ⟨b, 0, none⟩)) (h : wpPure Try.prog ws Q l (a.put o.dst (.pointer (some ⟨b, 9, none⟩)))) : wpPure Try.prog ws Q (o :: l) a := by
  refine ⟨_, ⟨hg, fun k => ?_⟩, h⟩
  unfold execOp
  simp only [ho, hx]
  simp [go_sem]
theorem sto_fr {k : Nat} (hg : o.guard = none) (hd : o.dst = none) (x y : Operand) (ho : o.op = .store 52 x y) (b : Nat) (f : Fr) (hx : a.eval x = .pointer (some ⟨b, 0, none⟩)) (hy : a.eval y = .agg #[.int .i64 f.n, .int .i64 f.d]) {g : Fr} (hb : FrB (ws k) b g)
    (hw : ws (k + 1) = ((ws k).setCell ⟨b, 0, none⟩ (.int .i64 f.n)).setCell ⟨b, 1, none⟩ (.int .i64 f.d)) (h : wpSto Try.prog ws Q2 l a (k + 1)) : wpSto Try.prog ws Q2 (o :: l) a k := by
  refine .inr ⟨⟨hg, hd, ?_⟩, h⟩
  obtain ⟨⟨c1, c2⟩, ⟨c3, c4⟩, _⟩ := hb.cells
  unfold execOp
  simp only [ho, hx, hy]
  simp [go_sem, c1, c2, c3, c4, hw]
theorem sto_assign {k : Nat} (hg : o.guard = none) (x : Operand) (ho : o.op = .assign x) (h : wpSto Try.prog ws Q2 l (a.put o.dst (a.eval x)) k) : wpSto Try.prog ws Q2 (o :: l) a k := by
  refine .inl ⟨_, ⟨hg, fun j => ?_⟩, h⟩
  unfold execOp
  simp [ho, go_sem]
end
theorem pure_any {ws : Nat → World} {Q : Act → Prop} {o : Oper} {l : List Oper} {a : Act} (hg : o.guard = none) (v : Value) (hv : ∀ w, (execOp a.eval o).run Try.prog w = .ok (.value v) w) (h : wpPure Try.prog ws Q l (a.put o.dst v)) : wpPure Try.prog ws Q (o :: l) a := ⟨v, ⟨hg, fun _ => hv _⟩, h⟩
/-- Four stores, one by one. -/
def wsq (W : World) (a b c d : Nat) (x y z u : Fr) : Nat → World
  | 0 => W
  | 1 => (W.setCell ⟨a, 0, none⟩ (.int .i64 x.n)).setCell ⟨a, 1, none⟩ (.int .i64 x.d)
  | 2 => ((((W.setCell ⟨a, 0, none⟩ (.int .i64 x.n)).setCell ⟨a, 1, none⟩ (.int .i64 x.d))).setCell ⟨b, 0, none⟩ (.int .i64 y.n)).setCell ⟨b, 1, none⟩ (.int .i64 y.d)
  | 3 => ((((((W.setCell ⟨a, 0, none⟩ (.int .i64 x.n)).setCell ⟨a, 1, none⟩ (.int .i64 x.d))).setCell ⟨b, 0, none⟩ (.int .i64 y.n)).setCell ⟨b, 1, none⟩ (.int .i64 y.d)).setCell ⟨c, 0, none⟩ (.int .i64 z.n)).setCell ⟨c, 1, none⟩ (.int .i64 z.d)
  | _ + 4 => st4 W a b c d x y z u
theorem wsq_far {W : World} {a b c d : Nat} {x y z u : Fr} {k0 : Nat} {f : Fr} (h : FrB W k0 f) (h1 : a ≠ k0) (h2 : b ≠ k0) (h3 : c ≠ k0) (h4 : d ≠ k0) : ∀ k, FrB (wsq W a b c d x y z u k) k0 f
  | 0 => h
  | 1 => (h.far h1).far h1
  | 2 => (((h.far h1).far h1).far h2).far h2
  | 3 => (((((h.far h1).far h1).far h2).far h2).far h3).far h3
  | _ + 4 => FrB.st4 h h1 h2 h3 h4
theorem wsq_keep {W : World} {a b c d : Nat} {x y z u : Fr} (h : Fr4 W a b c d x y z u) (ab : a ≠ b) (ac : a ≠ c) (ad : a ≠ d) (bc : b ≠ c) (bd : b ≠ d) (cd : c ≠ d) : ∀ k, Fr4 (wsq W a b c d x y z u k) a b c d x y z u
  | 0 => h
  | 1 => ⟨h.a.set, (h.b.far ab).far ab, (h.c.far ac).far ac, (h.d.far ad).far ad⟩
  | 2 => ⟨((h.a.set (g := x)).far (Ne.symm ab)).far (Ne.symm ab), ((h.b.far ab).far ab).set, (((h.c.far ac).far ac).far bc).far bc, (((h.d.far ad).far ad).far bd).far bd⟩
  | 3 => ⟨((((h.a.set (g := x)).far (Ne.symm ab)).far (Ne.symm ab)).far (Ne.symm ac)).far (Ne.symm ac), ((((h.b.far ab).far ab).set (g := y)).far (Ne.symm bc)).far (Ne.symm bc), ((((h.c.far ac).far ac).far bc).far bc).set, (((((h.d.far ad).far ad).far bd).far bd).far cd).far cd⟩
  | _ + 4 => h.set ab ac ad bc bd cd
theorem wsq_blk {W : World} {a b c d q : Nat} {x y z u : Fr} (h1 : a ≠ q) (h2 : b ≠ q) (h3 : c ≠ q) (h4 : d ≠ q) : ∀ k, (wsq W a b c d x y z u k).heap[q]? = W.heap[q]?
  | 0 => rfl
  | 1 => by unfold wsq; rw [far_blk h1, far_blk h1]
  | 2 => by unfold wsq; rw [far_blk h2, far_blk h2, far_blk h1, far_blk h1]
  | 3 => by unfold wsq; rw [far_blk h3, far_blk h3, far_blk h2, far_blk h2, far_blk h1, far_blk h1]
  | _ + 4 => by show (st4 W a b c d x y z u).heap[q]? = _; unfold st4; rw [far_blk h4, far_blk h4, far_blk h3, far_blk h3, far_blk h2, far_blk h2, far_blk h1, far_blk h1]
/-- THE REGION: four loads, four stores. -/
theorem region_ld4 {l : List Oper} {id : Nat} {w : World} {Q : Exit → Act → World → Prop} {a : Act} (hs ts : List Nat) (p q r s : Nat) {f1 f2 f3 f4 x y z u : Fr} (hB : lateB l hs ts = true) (_hf : Fr4 w p q r s f1 f2 f3 f4)
    (_n1 : p ≠ q) (_n2 : p ≠ r) (_n3 : p ≠ s) (_n4 : q ≠ r) (_n5 : q ≠ s) (_n6 : r ≠ s)
    (h : wpPure Try.prog (wsq w.drew p q r s x y z u) (fun a' => wpSto Try.prog (wsq w.drew p q r s x y z u) (fun a k => Q .normal a (wsq w.drew p q r s x y z u k)) (ts.map fun i => l.getD i default) a' 0) (hs.map fun i => l.getD i default) a) : (Code.region id l.toArray true).wp Try.prog Q a w :=
  region_late hs ts (wsq w.drew p q r s x y z u) (by kernel_rfl) hB rfl h
theorem wsq_1 {w : World} {p q r s : Nat} {f x y z u : Fr} (n1 : p ≠ q) (h : FrB w q f) : FrB (wsq w p q r s x y z u 1) q f := (h.far n1).far n1
theorem wsq_2 {w : World} {p q r s : Nat} {f x y z u : Fr} (n1 : p ≠ r) (n2 : q ≠ r) (h : FrB w r f) : FrB (wsq w p q r s x y z u 2) r f := (((h.far n1).far n1).far n2).far n2
theorem wsq_3 {w : World} {p q r s : Nat} {f x y z u : Fr} (n1 : p ≠ s) (n2 : q ≠ s) (n3 : r ≠ s) (h : FrB w s f) : FrB (wsq w p q r s x y z u 3) s f := (((((h.far n1).far n1).far n2).far n2).far n3).far n3
theorem drew_frb {w : World} {b : Nat} {f : Fr} (h : FrB w b f) : FrB w.drew b f := h
end Go.Proofs.Ytfkcpcdndleboaa

/- UTIL: a region that draws its order: reads that may come late, between two fresh boxes that are made and written. -/
namespace Go.Proofs.Ytfkcpcdndleboaa
open Go.RowKit
section
variable {P : Program} {ops : Array Oper} {md : Region.Mode} {S : Type} {I : S → World → Prop} {root : World}
/-- A step that changes the state. -/
def NStep (P : Program) (I : S → World → Prop) (o : Oper) (a : Act) (s : S) (K : Value → S → Prop) : Prop :=
  o.guard = none ∧ ∀ w, I s w → ∃ (s' : S) (v : Value) (w' : World), ((execOp a.eval o).run P w = .ok (.value v) w' ∨ (o.dst = none ∧ (execOp a.eval o).run P w = .ok .skip w')) ∧ I s' w' ∧ K v s'
def AOp (P : Program) (ops : Array Oper) (I : S → World → Prop) (root : World) (i : Nat) (K : Act → S → Prop) (a : Act) (s : S) : Prop :=
  ∃ o, ops[i]? = some o ∧ ((∃ v, YUp P ops o v a root ∧ K (a.put o.dst v) s) ∨ NStep P I o a s fun v s' => K (a.put o.dst v) s')
theorem AOp.wp {i : Nat} {K : Act → S → Prop} {a : Act} {s : S} {w : World} {Q : Exit → Act → World → Prop} (hup : ∀ s w, I s w → Up root w) (hst : ∀ s w w', I s w → Up w w' → I s w') (hx : AOp P ops I root i K a s) (hw : I s w) {K' : Act → World → Prop} (h : ∀ a s w, I s w → K a s → K' a w) : wpOp P ops Q i K' a w := by
  obtain ⟨o, ho, hx⟩ := hx
  rcases hx with ⟨v, h1, h2⟩ | ⟨hg, h1⟩
  · exact h1.wp ho (hup s w hw) fun w' hw' => h _ _ _ (hst s w w' hw hw') h2
  · unfold wpOp
    have hwt : Region.wanted o (yielded ops a.tmps) = true := by simp [Region.wanted, hg]
    simp only [ho, hwt, if_true]
    left
    unfold Oper.wp
    obtain ⟨s', v, w', h2, h3, h4⟩ := h1 w hw
    rcases h2 with h2 | ⟨hd, h2⟩
    · rw [h2]; exact h _ _ _ h3 h4
    · rw [h2]
      show K' (a.put o.dst undef) w'
      rw [hd] at h4 ⊢
      exact h _ _ _ h3 h4
def HA (P : Program) (md : Region.Mode) (ops : Array Oper) (I : S → World → Prop) (root : World) (L : Array Bool → Act → S → Prop) : Nat → Array Bool → Act → S → Prop
  | 0, listed, a, s => L listed a s
  | f + 1, listed, a, s => Region.ready md ops listed ≠ [] ∧ ∀ i ∈ Region.ready md ops listed, AOp P ops I root i (fun a' s' => HA P md ops I root L f (listed.setIfInBounds i true) a' s') a s
theorem HA.any {L : Array Bool → Act → S → Prop} {Q' : Exit → Act → World → Prop} (hup : ∀ s w, I s w → Up root w) (hst : ∀ s w w', I s w → Up w w' → I s w') (hL : ∀ listed a s w, I s w → L listed a s → Region.ready md ops listed = [] ∧ Q' .normal a w) :
    ∀ (f : Nat) (listed : Array Bool) (a : Act) (s : S) (w : World), I s w → HA P md ops I root L f listed a s → wpAny P md ops Q' f listed a w
  | 0, _, _, _, _, hw, h => hL _ _ _ _ hw h
  | f + 1, _, _, _, _, hw, h => ⟨fun h0 => absurd h0 h.1, fun i hi => (h.2 i hi).wp hup hst hw fun a' s' w' hw' h' => HA.any hup hst hL f _ a' s' w' hw' h'⟩
section
variable {L : Array Bool → Act → S → Prop} (hsel : ∀ (j : Nat) (o : Oper) cs b, ops[j]? = some o → o.op ≠ .select cs b) (hdone : ∀ listed a s, L listed a s → Region.ready md ops listed = [])
include hsel hdone
theorem HA.first {i : Nat} {oi : Oper} {v : Value} (hi : ops[i]? = some oi) : ∀ (f : Nat) (listed : Array Bool) (a : Act) (s : S), HeadInv md ops ops.size listed →
      (∀ j oj, ops[j]? = some oj → j ≠ i → listed.getD j true = false → (∀ e ∈ oj.after, Region.binds md e = true → e.on ≠ i) → oi.apart ops oj = true) →
      i ∈ Region.ready md ops listed → YUp P ops oi v a root → HA P md ops I root L f (listed.setIfInBounds i true) (a.put oi.dst v) s → HA P md ops I root L (f + 1) listed a s := by
  intro f
  have ne : ∀ (listed : Array Bool), i ∈ Region.ready md ops listed → Region.ready md ops listed ≠ [] := fun listed hr h => by rw [h] at hr; cases hr
  induction f with
  | zero =>
    intro listed a s inv _ hr hy H
    refine ⟨ne _ hr, fun j hj => ?_⟩
    by_cases hji : j = i
    · subst hji; exact ⟨oi, hi, .inl ⟨v, hy, H⟩⟩
    · have h1 := ready_mono hj hji
      rw [hdone _ _ _ H] at h1
      cases h1
  | succ f ih =>
    intro listed a s inv hfree hr hy H
    refine ⟨ne _ hr, fun j hj => ?_⟩
    by_cases hji : j = i
    · subst hji; exact ⟨oi, hi, .inl ⟨v, hy, H⟩⟩
    · obtain ⟨oj, hoj, hx⟩ := H.2 j (ready_mono hj hji)
      obtain ⟨hjun, oj', hoj', hall⟩ := mem_ready.1 hj
      rw [hoj] at hoj'
      injection hoj' with hoj'
      subst hoj'
      have hjn : j < ops.size := (Array.getElem?_eq_some_iff.1 hoj).1
      have hun := getD_both (mem_ready.1 hr).1
      have hnot : ∀ e ∈ oj.after, Region.binds md e = true → e.on ≠ i := fun e he hb heq => by
        have h3 := hall e he hb
        rw [heq, hun] at h3
        cases h3
      obtain ⟨h1, h2, h3⟩ := Oper.apart_spec (hfree j oj hoj hji hjun hnot)
      have hsi : ∀ cs b, oi.op ≠ .select cs b := fun cs b => hsel i oi cs b hi
      have hsj : ∀ cs b, oj.op ≠ .select cs b := fun cs b => hsel j oj cs b hoj
      have nxt : ∀ (u : Value) (s' : S), HA P md ops I root L f ((listed.setIfInBounds i true).setIfInBounds j true) ((a.put oi.dst v).put oj.dst u) s' → HA P md ops I root L (f + 1) (listed.setIfInBounds j true) (a.put oj.dst u) s' := fun u s' h => by
        refine ih (listed.setIfInBounds j true) (a.put oj.dst u) s' (inv.set hj hjn) (fun x ok hk hki hku hno => ?_) (ready_mono hr (Ne.symm hji)) (hy.of_same (execOp_put oi hsi a oj.dst u h3) (wanted_put oi a oj.dst u h3)) ?_
        · have hku2 : listed.getD x true = false := by
            by_cases hjk : j = x
            · subst hjk; exact hjun
            · rw [getD_set_ne true hjk] at hku; exact hku
          exact hfree x ok hk hki hku2 hno
        · rw [Array.setIfInBounds_comm _ _ hji, ← Act.put_comm a v u h2]
          exact h
      refine ⟨oj, hoj, ?_⟩
      rcases hx with ⟨u, hu, hK⟩ | ⟨hg, hK⟩
      · exact .inl ⟨u, hu.of_same (execOp_put oj hsj a oi.dst v h1).symm (wanted_put oj a oi.dst v h1).symm, nxt u s hK⟩
      · refine .inr ⟨hg, fun w hw => ?_⟩
        obtain ⟨s', u, w', e1, e2, e3⟩ := hK w hw
        rw [execOp_put oj hsj a oi.dst v h1] at e1
        exact ⟨s', u, w', e1, e2, nxt u s' e3⟩
end
theorem HA.lex {L : Array Bool → Act → S → Prop} (hsel : Region.noSelect ops = true) (hdone : ∀ listed a s, L listed a s → Region.ready md ops listed = []) (g : Nat) {aF : Act} {s : S} :
    ∀ (hs : List Nat) (l : List Oper) (listed : Array Bool) (a : Act), hs.map (fun i => ops[i]?) = l.map some → HeadInv md ops ops.size listed → headB md ops hs listed = true → wpUp P ops root l a aF → HA P md ops I root L g (listAll hs listed) aF s →
      HA P md ops I root L (hs.length + g) listed a s
  | [], l, listed, a, hl, inv, _, h, hb => by
    cases l with
    | nil =>
      rw [List.length_nil, Nat.zero_add]
      have e : a = aF := h
      rw [e]
      exact hb
    | cons o l => simp at hl
  | i :: hs, l, listed, a, hl, inv, hB, h, hb => by
    cases l with
    | nil => simp at hl
    | cons o l =>
      simp only [List.map_cons, List.cons.injEq] at hl
      obtain ⟨ho, hl⟩ := hl
      simp only [headB, Bool.and_eq_true] at hB
      obtain ⟨⟨hr, hf⟩, hB⟩ := hB
      obtain ⟨v, hy, h⟩ := h
      have hr' : i ∈ Region.ready md ops listed := by simpa using hr
      have hlt : i < ops.size := (Array.getElem?_eq_some_iff.1 ho).1
      have e : (i :: hs).length + g = (hs.length + g) + 1 := by simp; omega
      rw [e]
      exact HA.first (Region.noSelect_spec hsel) hdone ho _ listed a s inv (Region.free_spec ho hf) hr' hy
        (HA.lex hsel hdone g hs l _ _ hl (inv.set hr' hlt) hB h hb)
end
/-- What is known of the two boxes: where they lie, whether they are written. -/
structure TwoB where
  p : Option Nat
  q : Option Nat
  p1 : Bool
  q1 : Bool
def bxIs (W : World) (root : World) (o : Option Nat) (b : Bool) (f : Fr) : Prop := ∀ p, o = some p → root.heap.size ≤ p ∧ FrB W p (if b then f else z0)
def TwoI (root : World) (f g : Fr) (s : TwoB) (w : World) : Prop := Up root w ∧ bxIs w root s.p s.p1 f ∧ bxIs w root s.q s.q1 g ∧ (∀ p q, s.p = some p → s.q = some q → p ≠ q)
theorem TwoI.up {root : World} {f g : Fr} {s : TwoB} {w w' : World} (h : TwoI root f g s w) (hb : Up w w') : TwoI root f g s w' :=
  ⟨Up.trans h.1 hb, fun p e => ⟨(h.2.1 p e).1, (h.2.1 p e).2.below hb⟩, fun p e => ⟨(h.2.2.1 p e).1, (h.2.2.1 p e).2.below hb⟩, h.2.2.2⟩
theorem z0_obj : Obj.cells #[.int .i64 0, .int .i64 0] 52 = .cells #[.int .i64 z0.n, .int .i64 z0.d] 52 := rfl
theorem two_p {root : World} {f g : Fr} {q : Option Nat} {q1 : Bool} {w : World} (h : TwoI root f g ⟨none, q, false, q1⟩ w) : TwoI root f g ⟨some w.heap.size, q, false, q1⟩ (w.alloc (.cells #[.int .i64 0, .int .i64 0] 52)) := by
  obtain ⟨h1, h2, h3, h4⟩ := h
  have hb : Up w (w.alloc (.cells #[.int .i64 0, .int .i64 0] 52)) := (Below.refl _ _).alloc (Nat.le_refl _) _
  refine ⟨Up.trans h1 hb, fun p e => ?_, fun p e => ⟨(h3 p e).1, (h3 p e).2.below hb⟩, fun p q' e1 e2 => ?_⟩
  · injection e with e
    subst e
    exact ⟨h1.size, nw_blk rfl⟩
  · injection e1 with e1
    subst e1
    have := lt_of_block (h3 q' e2).2
    omega
theorem two_q {root : World} {f g : Fr} {p : Option Nat} {p1 : Bool} {w : World} (h : TwoI root f g ⟨p, none, p1, false⟩ w) : TwoI root f g ⟨p, some w.heap.size, p1, false⟩ (w.alloc (.cells #[.int .i64 0, .int .i64 0] 52)) := by
  obtain ⟨h1, h2, h3, h4⟩ := h
  have hb : Up w (w.alloc (.cells #[.int .i64 0, .int .i64 0] 52)) := (Below.refl _ _).alloc (Nat.le_refl _) _
  refine ⟨Up.trans h1 hb, fun p e => ⟨(h2 p e).1, (h2 p e).2.below hb⟩, fun p e => ?_, fun p q' e1 e2 => ?_⟩
  · injection e with e
    subst e
    exact ⟨h1.size, nw_blk rfl⟩
  · injection e2 with e2
    subst e2
    have := lt_of_block (h2 p e1).2
    omega
theorem two_wp {root : World} {f g : Fr} {p : Nat} {q : Option Nat} {q1 : Bool} {w : World} (h : TwoI root f g ⟨some p, q, false, q1⟩ w) : TwoI root f g ⟨some p, q, true, q1⟩ ((w.setCell ⟨p, 0, none⟩ (.int .i64 f.n)).setCell ⟨p, 1, none⟩ (.int .i64 f.d)) := by
  obtain ⟨h1, h2, h3, h4⟩ := h
  obtain ⟨k1, k2⟩ := h2 p rfl
  refine ⟨(h1.setCell k1 _).setCell k1 _, fun p' e => ?_, fun q' e => ⟨(h3 q' e).1, ((h3 q' e).2.far (h4 p q' rfl e)).far (h4 p q' rfl e)⟩, h4⟩
  injection e with e
  subst e
  exact ⟨k1, k2.set (g := f)⟩
theorem two_wq {root : World} {f g : Fr} {q : Nat} {p : Option Nat} {p1 : Bool} {w : World} (h : TwoI root f g ⟨p, some q, p1, false⟩ w) : TwoI root f g ⟨p, some q, p1, true⟩ ((w.setCell ⟨q, 0, none⟩ (.int .i64 g.n)).setCell ⟨q, 1, none⟩ (.int .i64 g.d)) := by
  obtain ⟨h1, h2, h3, h4⟩ := h
  obtain ⟨k1, k2⟩ := h3 q rfl
  refine ⟨(h1.setCell k1 _).setCell k1 _, fun p' e => ⟨(h2 p' e).1, ((h2 p' e).2.far (Ne.symm (h4 p' q e rfl))).far (Ne.symm (h4 p' q e rfl))⟩, fun q' e => ?_, h4⟩
  injection e with e
  subst e
  exact ⟨k1, k2.set (g := g)⟩
theorem ev_put {a : Act} {d : Tmp} {v : Value} (h : d < a.tmps.size) : (a.put (some d) v).eval (.tmp d) = v := by
  simp [Act.eval, Act.put, h]
theorem ev_ne {a : Act} {d t : Tmp} {v : Value} (h : t ≠ d) : (a.put (some d) v).eval (.tmp t) = a.eval (.tmp t) := by
  simp [Act.eval, Act.put, Array.getElem?_setIfInBounds_ne (Ne.symm h)]
theorem run_sto {o : Oper} {a : Act} {w : World} (x y : Operand) (ho : o.op = .store 52 x y) {p : Nat} {f g : Fr} (hx : a.eval x = .pointer (some ⟨p, 0, none⟩)) (hy : a.eval y = .agg #[.int .i64 f.n, .int .i64 f.d]) (hb : FrB w p g) :
    (execOp a.eval o).run Try.prog w = .ok .skip ((w.setCell ⟨p, 0, none⟩ (.int .i64 f.n)).setCell ⟨p, 1, none⟩ (.int .i64 f.d)) := by
  obtain ⟨⟨c1, c2⟩, ⟨c3, c4⟩, _⟩ := hb.cells
  unfold execOp
  simp only [ho, hx, hy]
  simp [go_sem, c1, c2, c3, c4]
theorem run_mk {o : Oper} {a : Act} {w : World} (ho : o.op = .alloc 52) : (execOp a.eval o).run Try.prog w = .ok (.value (.pointer (some ⟨w.heap.size, 0, none⟩))) (w.alloc (.cells #[.int .i64 0, .int .i64 0] 52)) := by
  unfold execOp
  simp only [ho]
  simp [go_sem]
def subB (l : List Nat) (m : List Nat) : Bool := !l.isEmpty && l.all fun x => m.contains x
def twoOk (ops : Array Oper) (l0 : Array Bool) (i1 i2 t1 t2 : Nat) : Bool :=
  subB (Region.ready .any ops l0) [i1, i2] && subB (Region.ready .any ops (l0.setIfInBounds i1 true)) [i2, t1] && subB (Region.ready .any ops (l0.setIfInBounds i2 true)) [i1] &&
  subB (Region.ready .any ops ((l0.setIfInBounds i1 true).setIfInBounds i2 true)) [t1] && subB (Region.ready .any ops ((l0.setIfInBounds i2 true).setIfInBounds i1 true)) [t1] && subB (Region.ready .any ops ((l0.setIfInBounds i1 true).setIfInBounds t1 true)) [i2] &&
  subB (Region.ready .any ops (((l0.setIfInBounds i1 true).setIfInBounds i2 true).setIfInBounds t1 true)) [t2] && subB (Region.ready .any ops (((l0.setIfInBounds i2 true).setIfInBounds i1 true).setIfInBounds t1 true)) [t2] && subB (Region.ready .any ops (((l0.setIfInBounds i1 true).setIfInBounds t1 true).setIfInBounds i2 true)) [t2] &&
  (Region.ready .any ops ((((l0.setIfInBounds i1 true).setIfInBounds i2 true).setIfInBounds t1 true).setIfInBounds t2 true)).isEmpty && (Region.ready .any ops ((((l0.setIfInBounds i2 true).setIfInBounds i1 true).setIfInBounds t1 true).setIfInBounds t2 true)).isEmpty && (Region.ready .any ops ((((l0.setIfInBounds i1 true).setIfInBounds t1 true).setIfInBounds i2 true).setIfInBounds t2 true)).isEmpty
theorem subB_spec {l m : List Nat} (h : subB l m = true) : l ≠ [] ∧ ∀ x ∈ l, x ∈ m := by
  unfold subB at h
  simp only [Bool.and_eq_true, Bool.not_eq_true', List.all_eq_true] at h
  refine ⟨fun e => by rw [e] at h; simp at h, fun x hx => by simpa using h.2 x hx⟩
section
variable {ops : Array Oper} {root : World} {aF : Act} {f g : Fr} {i1 i2 t1 t2 : Nat} {d1 d2 y1 y2 : Tmp} {oi1 oi2 ot1 ot2 : Oper}
/-- What the end of the region knows. -/
def TwoL (ops : Array Oper) (aF : Act) (d1 d2 : Tmp) (listed : Array Bool) (a : Act) (s : TwoB) : Prop := Region.ready .any ops listed = [] ∧ ∃ p q, s = ⟨some p, some q, true, true⟩ ∧ a = (aF.put (some d1) (.pointer (some ⟨p, 0, none⟩))).put (some d2) (.pointer (some ⟨q, 0, none⟩))
theorem two_tail (l0 : Array Bool) (hB : twoOk ops l0 i1 i2 t1 t2 = true) (h1 : ops[i1]? = some oi1) (h2 : ops[i2]? = some oi2) (h3 : ops[t1]? = some ot1) (h4 : ops[t2]? = some ot2)
    (k1 : oi1.op = .alloc 52 ∧ oi1.dst = some d1 ∧ oi1.guard = none) (k2 : oi2.op = .alloc 52 ∧ oi2.dst = some d2 ∧ oi2.guard = none)
    (k3 : ot1.op = .store 52 (.tmp d1) (.tmp y1) ∧ ot1.dst = none ∧ ot1.guard = none) (k4 : ot2.op = .store 52 (.tmp d2) (.tmp y2) ∧ ot2.dst = none ∧ ot2.guard = none)
    (n1 : d1 ≠ d2) (n2 : y1 ≠ d1) (n3 : y1 ≠ d2) (n4 : y2 ≠ d1) (n5 : y2 ≠ d2) (s1 : d1 < aF.tmps.size) (s2 : d2 < aF.tmps.size)
    (v1 : aF.eval (.tmp y1) = .agg #[.int .i64 f.n, .int .i64 f.d]) (v2 : aF.eval (.tmp y2) = .agg #[.int .i64 g.n, .int .i64 g.d]) :
    HA Try.prog .any ops (TwoI root f g) root (TwoL ops aF d1 d2) 4 l0 aF ⟨none, none, false, false⟩ := by
  simp only [twoOk, Bool.and_eq_true] at hB
  obtain ⟨⟨⟨⟨⟨⟨⟨⟨⟨⟨⟨c0, c1⟩, c2⟩, c12⟩, c21⟩, c1t⟩, c12t⟩, c21t⟩, c1t2⟩, e1⟩, e2⟩, e3⟩ := hB
  have em : ∀ {l : List Nat}, l.isEmpty = true → l = [] := fun h => by simpa using h
  have sz : ∀ (a : Act) (d : Tmp) (v : Value), (a.put (some d) v).tmps.size = a.tmps.size := fun a d v => put_size
  -- the last store
  have T2 : ∀ (l : Array Bool) (a : Act) (p q : Nat), subB (Region.ready .any ops l) [t2] = true → Region.ready .any ops (l.setIfInBounds t2 true) = [] → a = (aF.put (some d1) (.pointer (some ⟨p, 0, none⟩))).put (some d2) (.pointer (some ⟨q, 0, none⟩)) → HA Try.prog .any ops (TwoI root f g) root (TwoL ops aF d1 d2) 1 l a ⟨some p, some q, true, false⟩ := fun l a p q hb he ha => by
    obtain ⟨b1, b2⟩ := subB_spec hb
    refine ⟨b1, fun j hj => ?_⟩
    obtain rfl : j = t2 := by simpa using b2 j hj
    refine ⟨ot2, h4, .inr ⟨k4.2.2, fun w hw => ⟨_, undef, _, .inr ⟨k4.2.1, run_sto _ _ k4.1 ?_ ?_ (hw.2.2.1 q rfl).2⟩, two_wq hw, ?_⟩⟩⟩
    · rw [ha]; exact ev_put (by rw [sz]; exact s2)
    · rw [ha, ev_ne n5, ev_ne n4]; exact v2
    · rw [k4.2.1]
      exact ⟨he, p, q, rfl, ha⟩
  -- the first store, both boxes made
  have T1 : ∀ (l : Array Bool) (a : Act) (p q : Nat), subB (Region.ready .any ops l) [t1] = true → subB (Region.ready .any ops (l.setIfInBounds t1 true)) [t2] = true → Region.ready .any ops ((l.setIfInBounds t1 true).setIfInBounds t2 true) = [] → a = (aF.put (some d1) (.pointer (some ⟨p, 0, none⟩))).put (some d2) (.pointer (some ⟨q, 0, none⟩)) → HA Try.prog .any ops (TwoI root f g) root (TwoL ops aF d1 d2) 2 l a ⟨some p, some q, false, false⟩ := fun l a p q hb hb2 he ha => by
    obtain ⟨b1, b2⟩ := subB_spec hb
    refine ⟨b1, fun j hj => ?_⟩
    obtain rfl : j = t1 := by simpa using b2 j hj
    refine ⟨ot1, h3, .inr ⟨k3.2.2, fun w hw => ⟨_, undef, _, .inr ⟨k3.2.1, run_sto _ _ k3.1 ?_ ?_ (hw.2.1 p rfl).2⟩, two_wp hw, ?_⟩⟩⟩
    · rw [ha, ev_ne n1]; exact ev_put s1
    · rw [ha, ev_ne n3, ev_ne n2]; exact v1
    · rw [k3.2.1]
      exact T2 _ a p q hb2 he ha
  obtain ⟨b1, b2⟩ := subB_spec c0
  refine ⟨b1, fun j hj => ?_⟩
  have hj2 := b2 j hj
  simp only [List.mem_cons, List.not_mem_nil, or_false] at hj2
  rcases hj2 with rfl | rfl
  · -- the first box first
    refine ⟨oi1, h1, .inr ⟨k1.2.2, fun w hw => ⟨_, _, _, .inl (run_mk k1.1), two_p hw, ?_⟩⟩⟩
    rw [k1.2.1]
    obtain ⟨b3, b4⟩ := subB_spec c1
    refine ⟨b3, fun i hi => ?_⟩
    have hi2 := b4 i hi
    simp only [List.mem_cons, List.not_mem_nil, or_false] at hi2
    rcases hi2 with rfl | rfl
    · refine ⟨oi2, h2, .inr ⟨k2.2.2, fun w' hw' => ⟨_, _, _, .inl (run_mk k2.1), two_q hw', ?_⟩⟩⟩
      rw [k2.2.1]
      exact T1 _ _ _ _ c12 c12t (em e1) rfl
    · refine ⟨ot1, h3, .inr ⟨k3.2.2, fun w' hw' => ⟨_, undef, _, .inr ⟨k3.2.1, run_sto _ _ k3.1 (ev_put s1) (by rw [ev_ne n2]; exact v1) (hw'.2.1 _ rfl).2⟩, two_wp hw', ?_⟩⟩⟩
      rw [k3.2.1]
      obtain ⟨b5, b6⟩ := subB_spec c1t
      refine ⟨b5, fun x hx => ?_⟩
      obtain rfl : x = i2 := by simpa using b6 x hx
      refine ⟨oi2, h2, .inr ⟨k2.2.2, fun w2 hw2 => ⟨_, _, _, .inl (run_mk k2.1), two_q hw2, ?_⟩⟩⟩
      rw [k2.2.1]
      exact T2 _ _ _ _ c1t2 (em e3) rfl
  · -- the second box first
    refine ⟨oi2, h2, .inr ⟨k2.2.2, fun w hw => ⟨_, _, _, .inl (run_mk k2.1), two_q hw, ?_⟩⟩⟩
    rw [k2.2.1]
    obtain ⟨b3, b4⟩ := subB_spec c2
    refine ⟨b3, fun i hi => ?_⟩
    obtain rfl : i = i1 := by simpa using b4 i hi
    refine ⟨oi1, h1, .inr ⟨k1.2.2, fun w' hw' => ⟨_, _, _, .inl (run_mk k1.1), two_p hw', ?_⟩⟩⟩
    rw [k1.2.1]
    exact T1 _ _ _ _ c21 c21t (em e2) (Act.put_comm _ _ _ fun d e h => by injection e with e; injection h with h; exact n1 (h.trans e.symm))
end
/-- THE LAW of a region that makes two fractions out of what it reads. -/
theorem region_two {l : List Oper} {id : Nat} {w : World} {Q : Exit → Act → World → Prop} {a : Act} (n : Nat) (hs : List Nat) (i1 i2 t1 t2 : Nat) (d1 d2 y1 y2 : Tmp) {oi1 oi2 ot1 ot2 : Oper} {f g : Fr}
    (hB : (Region.noSelect l.toArray && headB .any l.toArray hs (Array.replicate l.toArray.size false) && twoOk l.toArray (listAll hs (Array.replicate l.toArray.size false)) i1 i2 t1 t2 && dstsOk n (hs.map fun i => l.getD i default) && (hs.all fun i => decide (i < l.length)) && decide (hs.length + 4 = l.length)) = true) (hn : a.tmps.size = n)
    (h1 : l.toArray[i1]? = some oi1) (h2 : l.toArray[i2]? = some oi2) (h3 : l.toArray[t1]? = some ot1) (h4 : l.toArray[t2]? = some ot2)
    (k1 : oi1.op = .alloc 52 ∧ oi1.dst = some d1 ∧ oi1.guard = none) (k2 : oi2.op = .alloc 52 ∧ oi2.dst = some d2 ∧ oi2.guard = none)
    (k3 : ot1.op = .store 52 (.tmp d1) (.tmp y1) ∧ ot1.dst = none ∧ ot1.guard = none) (k4 : ot2.op = .store 52 (.tmp d2) (.tmp y2) ∧ ot2.dst = none ∧ ot2.guard = none)
    (n1 : d1 ≠ d2) (n2 : y1 ≠ d1) (n3 : y1 ≠ d2) (n4 : y2 ≠ d1) (n5 : y2 ≠ d2)
    (h : ∃ aF : Act, (∀ wb, Up w wb → wpQuiet Try.prog l.toArray (fun w' => ∃ z : BW wb.heap.size wb, w' = z.val) (fun a' => a' = aF) (hs.map fun i => l.getD i default) a) ∧ (d1 < aF.tmps.size ∧ d2 < aF.tmps.size) ∧
      (aF.eval (.tmp y1) = .agg #[.int .i64 f.n, .int .i64 f.d] ∧ aF.eval (.tmp y2) = .agg #[.int .i64 g.n, .int .i64 g.d]) ∧
      ∀ (p q : Nat) (w' : World), w.heap.size ≤ p → w.heap.size ≤ q → p ≠ q → FrB w' p f → FrB w' q g → Up w w' → Q .normal ((aF.put (some d1) (.pointer (some ⟨p, 0, none⟩))).put (some d2) (.pointer (some ⟨q, 0, none⟩))) w') : (Code.region id l.toArray true).wp Try.prog Q a w := by
  simp only [Bool.and_eq_true, decide_eq_true_eq] at hB
  obtain ⟨⟨⟨⟨⟨hsel, hhead⟩, htwo⟩, hd⟩, hlt⟩, hlen⟩ := hB
  obtain ⟨aF, hq, ⟨s1, s2⟩, ⟨v1, v2⟩, ht⟩ := h
  have hlt1 : ∀ i ∈ hs, i < l.length := fun i hi => by simpa using List.all_eq_true.1 hlt i hi
  have hup : wpUp Try.prog l.toArray w (hs.map fun i => l.getD i default) a aF := up_of_quiet _ a (by rw [hn]; exact hd) hq
  have H := HA.lex (P := Try.prog) (md := .any) (I := TwoI w f g) (root := w) (L := TwoL l.toArray aF d1 d2) hsel (fun _ _ _ h => h.1) 4 hs _ _ a (map_getD hs fun i hi => hlt1 i hi) headInv0 hhead hup
    (two_tail (f := f) (g := g) (root := w) _ htwo h1 h2 h3 h4 k1 k2 k3 k4 n1 n2 n3 n4 n5 s1 s2 v1 v2)
  refine wp_region_any (by kernel_rfl) ?_
  have hz := HA.any (P := Try.prog) (md := .any) (ops := l.toArray) (I := TwoI w f g) (root := w) (L := TwoL l.toArray aF d1 d2) (Q' := Q) (fun s w' h => h.1) (fun s w' w'' h hb => TwoI.up h hb) (fun listed a s w' hI hL => by
    obtain ⟨hr, p, q, rfl, rfl⟩ := hL
    obtain ⟨g1, g2, g3, g4⟩ := hI
    exact ⟨hr, ht p q w' (g2 p rfl).1 (g3 q rfl).1 (g4 p q rfl rfl) (g2 p rfl).2 (g3 q rfl).2 g1⟩) (hs.length + 4) _ a ⟨none, none, false, false⟩ w.drew ⟨(Below.refl w.heap.size w).drew, fun p e => (by cases e), fun p e => (by cases e), fun p q e => (by cases e)⟩ H
  have e : hs.length + 4 = l.toArray.size := by
    have : l.toArray.size = l.length := by simp
    omega
  rw [e] at hz
  exact hz
end Go.Proofs.Ytfkcpcdndleboaa

/- WALK: the program's Extent (printed by gen_extw.py). -/
namespace Go.Proofs.Ytfkcpcdndleboaa
open Go.RowKit
theorem Try.xalF13 {g : Array Edge} {t : TypeId} {p : String} : XAl Try.prog { dst := some 13, op := Op.alloc 52, type := t, pos := p, after := g, guard := none } (.cells #[.int .i64 0, .int .i64 0] 52 (0, 0)) := ⟨rfl, fun a w => by simp [go_sem]⟩
theorem Try.xalF14' {g : Array Edge} {t : TypeId} {p : String} : XAl Try.prog { dst := some 14, op := Op.alloc 52, type := t, pos := p, after := g, guard := none } (.cells #[.int .i64 0, .int .i64 0] 52 (0, 0)) := ⟨rfl, fun a w => by simp [go_sem]⟩
def frV (f : Fr) : Value := .agg #[.int .i64 f.n, .int .i64 f.d]
def ExtPost (L : List Bxv) (w : World) (e : Ending) (w' : World) : Prop :=
  e = .returned (.tuple #[frV (extV L).1.x, frV (extV L).1.y, frV (extV L).1.r, frV (extV L).1.l, .int .i64 (extV L).2]) ∧ Below w.heap.size w w'
/-- What the loop keeps. -/
def ExSt (L : List Bxv) (j : Nat) (W : World) (a b c d : Nat) : Prop := ∃ e : Ext, Fr4 W a b c d e.x e.y e.r e.l ∧ (0 < j → e = exF L j)
set_option maxRecDepth 100000 in
set_option maxHeartbeats 8000000 in
theorem extent_any (L : List Bxv) (A : Option Addr) (c : Nat) (hn : L.length ≤ 1000000) (w : World) (r : Bxs w w.heap.size A L) :
    Calls Try.prog 36 #[.slice A L.length c] w (ExtPost L w) := by
  obtain ⟨w1, hw1⟩ : ∃ w1, w1 = ((((w.alloc (.cells #[.int .i64 0, .int .i64 0] 52)).alloc (.cells #[.int .i64 0, .int .i64 0] 52)).alloc (.cells #[.int .i64 0, .int .i64 0] 52)).alloc (.cells #[.int .i64 0, .int .i64 0] 52)).alloc (.cells #[.int .i64 0, .int .i64 0] 52) := ⟨_, rfl⟩
  have hb1 : Below w.heap.size w w1 := by rw [hw1]; exact (((((Below.refl _ _).alloc (Nat.le_refl _) _).alloc (by simp) _).alloc (by simp; omega) _).alloc (by simp; omega) _).alloc (by simp; omega) _
  have hz1 : w1.heap.size = w.heap.size + 5 := by rw [hw1]; simp
  have hf4 : Fr4 w1 w.heap.size (w.heap.size + 1) (w.heap.size + 2) (w.heap.size + 3) z0 z0 z0 z0 := by rw [hw1]; exact ⟨old_blk (old_blk (old_blk (old_blk (nw_blk rfl)))), old_blk (old_blk (old_blk (nw_blk (by simp)))), old_blk (old_blk (nw_blk (by simp))), old_blk (nw_blk (by simp))⟩
  have hf5 : FrB w1 (w.heap.size + 4) z0 := by rw [hw1]; exact nw_blk (by simp)
  have HCK := hid (boxCheck_any L A c hn w1 ((r.below hb1).more hb1.size))
  have hbad : chB L ≠ 0 → extV L = (⟨z0, z0, z0, z0⟩, chB L) := fun h => if_pos h
  have hnil : ¬ chB L ≠ 0 → L.length = 0 → extV L = (⟨z0, z0, z0, z0⟩, 3) := fun h h2 => (if_neg h).trans (if_pos h2)
  have hgo : ¬ chB L ≠ 0 → ¬ L.length = 0 → extV L = @ite _ (((exF L L.length).r.sub (exF L L.length).x).ok ∧ ((exF L L.length).l.sub (exF L L.length).y).ok) (Classical.propDecidable _) (⟨(exF L L.length).x, (exF L L.length).y, (exF L L.length).r.sub (exF L L.length).x, (exF L L.length).l.sub (exF L L.length).y⟩, 0) (⟨z0, z0, z0, z0⟩, 41) := fun h h2 => (if_neg h).trans (if_neg h2)
  have hch := chB_zero (L := L)
  have HPO := hid fun (e : Ending) (w' : World) (V : Ext × Int) (h0 : extV L = V) (h1 : e = .returned (.tuple #[frV V.1.x, frV V.1.y, frV V.1.r, frV V.1.l, .int .i64 V.2])) (h2 : Below w.heap.size w w') => (show ExtPost L w e w' from ⟨by rw [h0]; exact h1, h2⟩)
  have HR := hid r
  have HW1 := hid hw1; have HB1 := hid hb1; have HZ1 := hid hz1; have HF4 := hid hf4; have HF5 := hid hf5
  clear hw1 hb1 hf4 hf5 r
  obtain ⟨B2, hB2⟩ : ∃ B2, B2 = w.heap.size := ⟨_, rfl⟩
  obtain ⟨B3, hB3⟩ : ∃ B3, B3 = B2 + 1 := ⟨_, rfl⟩
  obtain ⟨B4, hB4⟩ : ∃ B4, B4 = B2 + 2 := ⟨_, rfl⟩
  obtain ⟨B5, hB5⟩ : ∃ B5, B5 = B2 + 3 := ⟨_, rfl⟩
  obtain ⟨B7, hB7⟩ : ∃ B7, B7 = B2 + 4 := ⟨_, rfl⟩
  rw [← hB2] at HF4 HF5
  rw [← hB3, ← hB4, ← hB5] at HF4
  rw [← hB7] at HF5
  have n23 : B2 ≠ B3 := by omega
  have n24 : B2 ≠ B4 := by omega
  have n25 : B2 ≠ B5 := by omega
  have n34 : B3 ≠ B4 := by omega
  have n35 : B3 ≠ B5 := by omega
  have n45 : B4 ≠ B5 := by omega
  have m2 : B2 ≠ B7 := by omega
  have m3 : B3 ≠ B7 := by omega
  have m4 : B4 ≠ B7 := by omega
  have m5 : B5 ≠ B7 := by omega
  have l2 : w.heap.size ≤ B2 := by omega
  have l3 : w.heap.size ≤ B3 := by omega
  have l4 : w.heap.size ≤ B4 := by omega
  have l5 : w.heap.size ≤ B5 := by omega
  have l7 : B7 < w1.heap.size := by omega
  have k2 : B2 < w1.heap.size := by omega
  have k3 : B3 < w1.heap.size := by omega
  have k4 : B4 < w1.heap.size := by omega
  have k5 : B5 < w1.heap.size := by omega
  have HNE := hid (show (B2 ≠ B3 ∧ B2 ≠ B4 ∧ B2 ≠ B5 ∧ B3 ≠ B4 ∧ B3 ≠ B5 ∧ B4 ≠ B5) ∧ (B2 ≠ B7 ∧ B3 ≠ B7 ∧ B4 ≠ B7 ∧ B5 ≠ B7) ∧ (w.heap.size ≤ B2 ∧ w.heap.size ≤ B3 ∧ w.heap.size ≤ B4 ∧ w.heap.size ≤ B5) ∧ B7 < w1.heap.size ∧ B2 < w1.heap.size ∧ B3 < w1.heap.size ∧ B4 < w1.heap.size ∧ B5 < w1.heap.size from ⟨⟨n23, n24, n25, n34, n35, n45⟩, ⟨m2, m3, m4, m5⟩, ⟨l2, l3, l4, l5⟩, l7, k2, k3, k4, k5⟩)
  clear n23 n24 n25 n34 n35 n45 m2 m3 m4 m5 l2 l3 l4 l5 l7 k2 k3 k4 k5
  obtain ⟨n, hnn⟩ : ∃ n, n = L.length := ⟨_, rfl⟩
  rw [← hnn] at hn HCK hnil hgo hch ⊢
  have HN := hid hnn; have HCH := hid hch
  -- four zeros at the end
  have HZE := hid fun (W : World) (f4 : Fr4 W B2 B3 B4 B5 z0 z0 z0 z0) => f4
  clear hnn hch

  by_cases hc : chB L ≠ 0
  · have HX := hid (hbad hc)
    have e0 : (chB L != 0) = true := by simpa using hc
    generalize chB L = CE at *
    clear hbad hnil hgo hc
    go_enter Try.func36, Try.ntmps36
    go_upto_region 2 with (fail)
    simp only [Nat.add_assoc, Nat.reduceAdd]
    rw [← HW1.out]
    clear HW1
    rw [← hB2]
    try rw [← hB3]
    try rw [← hB4]
    try rw [← hB5]
    try rw [← hB7]
    clear hB2 hB3 hB4 hB5 hB7 hz1
    go_upto_region 4 with (first | (go_at_call 68; refine HCK.out.mono ?_; rintro e w2 ⟨rfl, hb2⟩; have HB2 := hid hb2; clear hb2))
    have HG2 := hid (HF4.out.below HB2.out); have HG5 := hid (HF5.out.below HB2.out)
    have HBL := hid (HB1.out.trans ((bnext0 HB2.out (Below.refl w2.heap.size w2).drew).mono HB1.out.size))
    obtain ⟨⟨x1, x2, x3, x4, x5, x6⟩, ⟨v1, v2, v3, v4⟩, ⟨y1, y2, y3, y4⟩, _⟩ := HNE.out
    have HW7 := hid fun k => (wsq_far (x := z0) (y := z0) (z := z0) (u := z0) (drew_frb HG5.out) v1 v2 v3 v4 k).cells.1
    refine region_ld4 (x := z0) (y := z0) (z := z0) (u := z0) [0, 1, 2, 3, 4] [5, 6, 7, 8, 9] B2 B3 B4 B5 (by kernel_rfl) HG2.out x1 x2 x3 x4 x5 x6 ?_
    simp only [List.map_cons, List.map_nil, List.getD_cons_zero, List.getD_cons_succ]
    refine pure_load rfl (.tmp 7) rfl B7 0 z0 rfl HW7.out ?_
    simp only [Act.put, List.setIfInBounds_toArray, List.set_cons_succ, List.set_cons_zero]
    refine pure_load rfl (.tmp 7) rfl B7 0 z0 rfl HW7.out ?_
    simp only [Act.put, List.setIfInBounds_toArray, List.set_cons_succ, List.set_cons_zero]
    refine pure_load rfl (.tmp 7) rfl B7 0 z0 rfl HW7.out ?_
    simp only [Act.put, List.setIfInBounds_toArray, List.set_cons_succ, List.set_cons_zero]
    refine pure_load rfl (.tmp 7) rfl B7 0 z0 rfl HW7.out ?_
    simp only [Act.put, List.setIfInBounds_toArray, List.set_cons_succ, List.set_cons_zero]
    refine pure_move rfl (.tmp 8) rfl ?_
    simp only [Act.put, List.setIfInBounds_toArray, List.set_cons_succ, List.set_cons_zero]
    refine sto_fr rfl rfl (.tmp 2) (.tmp 19) rfl B2 z0 rfl rfl (drew_frb HG2.out.a) rfl ?_
    refine sto_fr rfl rfl (.tmp 3) (.tmp 20) rfl B3 z0 rfl rfl (wsq_1 x1 (drew_frb HG2.out.b)) rfl ?_
    refine sto_fr rfl rfl (.tmp 4) (.tmp 21) rfl B4 z0 rfl rfl (wsq_2 x2 x4 (drew_frb HG2.out.c)) rfl ?_
    refine sto_fr rfl rfl (.tmp 5) (.tmp 22) rfl B5 z0 rfl rfl (wsq_3 x3 x5 x6 (drew_frb HG2.out.d)) rfl ?_
    refine sto_assign rfl (.tmp 23) rfl ?_
    simp only [Act.put, List.setIfInBounds_toArray, List.set_cons_succ, List.set_cons_zero]
    show wpSto _ _ _ [] _ _
    unfold wpSto
    obtain ⟨w9, hw9⟩ : ∃ w9, w9 = wsq w2.drew B2 B3 B4 B5 z0 z0 z0 z0 (0 + 1 + 1 + 1 + 1) := ⟨_, rfl⟩
    have hst : Fr4 w9 B2 B3 B4 B5 z0 z0 z0 z0 := by rw [hw9]; exact Fr4.set (W := w2.drew) ⟨drew_frb HG2.out.a, drew_frb HG2.out.b, drew_frb HG2.out.c, drew_frb HG2.out.d⟩ x1 x2 x3 x4 x5 x6
    have hsb : Below w.heap.size w w9 := by rw [hw9]; exact Below.st4 HBL.out y1 y2 y3 y4
    rw [← hw9]
    obtain ⟨⟨e1, e2⟩, _, _⟩ := hst.a.cells
    obtain ⟨⟨e3, e4⟩, _, _⟩ := hst.b.cells
    obtain ⟨⟨e5, e6⟩, _, _⟩ := hst.c.cells
    obtain ⟨⟨e7, e8⟩, _, _⟩ := hst.d.cells
    have HSB := hid hsb
    clear hst hsb hw9 HW7 x1 x2 x3 x4 x5 x6 y1 y2 y3 y4 v1 v2 v3 v4
    simp only [z0] at e1 e2 e3 e4 e5 e6 e7 e8
    simp only [z0]
    go_wp2_with fail
    exact bodyPost_ret (v := .tuple #[.agg #[.int .i64 0, .int .i64 0], .agg #[.int .i64 0, .int .i64 0], .agg #[.int .i64 0, .int .i64 0], .agg #[.int .i64 0, .int .i64 0], .int .i64 CE]) (by simp only [results, Try.results36]; simp [go_sem, e1, e2, e3, e4, e5, e6, e7, e8]) rfl (HPO.out _ _ _ HX.out rfl HSB.out)
  · have e0 : (chB L != 0) = false := by simpa using hc
    have hpl := (HCH.out (by simpa using hc)).2
    have hn2 := (HCH.out (by simpa using hc)).1
    by_cases h0 : n = 0
    · have HX := hid (hnil hc h0)
      have e1 : ((n : Int) == 0) = true := by simp [h0]
      have e2 : (n == 0) = true := by simp [h0]
      have HE1 := hid e1; have HE2 := hid e2
      generalize chB L = CE at *
      clear hbad hnil hgo hc hpl h0 e1 e2
      go_enter Try.func36, Try.ntmps36
      go_upto_region 2 with (fail)
      simp only [Nat.add_assoc, Nat.reduceAdd]
      rw [← HW1.out]
      clear HW1
      rw [← hB2]
      try rw [← hB3]
      try rw [← hB4]
      try rw [← hB5]
      try rw [← hB7]
      clear hB2 hB3 hB4 hB5 hB7 hz1
      go_upto_region 5 with (first | (go_at_call 68; refine HCK.out.mono ?_; rintro e w2 ⟨rfl, hb2⟩; have HB2 := hid hb2; clear hb2))
      have HG2 := hid (HF4.out.below HB2.out); have HG5 := hid (HF5.out.below HB2.out)
      have HBL := hid (HB1.out.trans ((bnext0 HB2.out (Below.refl w2.heap.size w2).drew).mono HB1.out.size))
      have e1 := HE1.out; have e2 := HE2.out
      go_upto_region 6 with (fail)
      obtain ⟨⟨x1, x2, x3, x4, x5, x6⟩, ⟨v1, v2, v3, v4⟩, ⟨y1, y2, y3, y4⟩, _⟩ := HNE.out
      have HW7 := hid fun k => (wsq_far (x := z0) (y := z0) (z := z0) (u := z0) (drew_frb HG5.out) v1 v2 v3 v4 k).cells.1
      refine region_ld4 (x := z0) (y := z0) (z := z0) (u := z0) [0, 1, 2, 3] [4, 5, 6, 7, 8] B2 B3 B4 B5 (by kernel_rfl) HG2.out x1 x2 x3 x4 x5 x6 ?_
      simp only [List.map_cons, List.map_nil, List.getD_cons_zero, List.getD_cons_succ]
      refine pure_load rfl (.tmp 7) rfl B7 0 z0 rfl HW7.out ?_
      simp only [Act.put, List.setIfInBounds_toArray, List.set_cons_succ, List.set_cons_zero]
      refine pure_load rfl (.tmp 7) rfl B7 0 z0 rfl HW7.out ?_
      simp only [Act.put, List.setIfInBounds_toArray, List.set_cons_succ, List.set_cons_zero]
      refine pure_load rfl (.tmp 7) rfl B7 0 z0 rfl HW7.out ?_
      simp only [Act.put, List.setIfInBounds_toArray, List.set_cons_succ, List.set_cons_zero]
      refine pure_load rfl (.tmp 7) rfl B7 0 z0 rfl HW7.out ?_
      simp only [Act.put, List.setIfInBounds_toArray, List.set_cons_succ, List.set_cons_zero]
      refine sto_fr rfl rfl (.tmp 2) (.tmp 27) rfl B2 z0 rfl rfl (drew_frb HG2.out.a) rfl ?_
      refine sto_fr rfl rfl (.tmp 3) (.tmp 28) rfl B3 z0 rfl rfl (wsq_1 x1 (drew_frb HG2.out.b)) rfl ?_
      refine sto_fr rfl rfl (.tmp 4) (.tmp 29) rfl B4 z0 rfl rfl (wsq_2 x2 x4 (drew_frb HG2.out.c)) rfl ?_
      refine sto_fr rfl rfl (.tmp 5) (.tmp 30) rfl B5 z0 rfl rfl (wsq_3 x3 x5 x6 (drew_frb HG2.out.d)) rfl ?_
      refine sto_assign rfl (.const (.int .i64 3)) rfl ?_
      simp only [Act.put, List.setIfInBounds_toArray, List.set_cons_succ, List.set_cons_zero]
      show wpSto _ _ _ [] _ _
      unfold wpSto
      obtain ⟨w9, hw9⟩ : ∃ w9, w9 = wsq w2.drew B2 B3 B4 B5 z0 z0 z0 z0 (0 + 1 + 1 + 1 + 1) := ⟨_, rfl⟩
      have hst : Fr4 w9 B2 B3 B4 B5 z0 z0 z0 z0 := by rw [hw9]; exact Fr4.set (W := w2.drew) ⟨drew_frb HG2.out.a, drew_frb HG2.out.b, drew_frb HG2.out.c, drew_frb HG2.out.d⟩ x1 x2 x3 x4 x5 x6
      have hsb : Below w.heap.size w w9 := by rw [hw9]; exact Below.st4 HBL.out y1 y2 y3 y4
      rw [← hw9]
      obtain ⟨⟨e1, e2⟩, _, _⟩ := hst.a.cells
      obtain ⟨⟨e3, e4⟩, _, _⟩ := hst.b.cells
      obtain ⟨⟨e5, e6⟩, _, _⟩ := hst.c.cells
      obtain ⟨⟨e7, e8⟩, _, _⟩ := hst.d.cells
      have HSB := hid hsb
      clear hst hsb hw9 HW7 x1 x2 x3 x4 x5 x6 y1 y2 y3 y4 v1 v2 v3 v4
      simp only [z0] at e1 e2 e3 e4 e5 e6 e7 e8
      simp only [z0]
      go_wp2_with fail
      exact bodyPost_ret (v := .tuple #[.agg #[.int .i64 0, .int .i64 0], .agg #[.int .i64 0, .int .i64 0], .agg #[.int .i64 0, .int .i64 0], .agg #[.int .i64 0, .int .i64 0], .int .i64 3]) (by simp only [results, Try.results36]; simp [go_sem, e1, e2, e3, e4, e5, e6, e7, e8]) rfl (HPO.out _ _ _ HX.out rfl HSB.out)
    · have e1 : ((n : Int) == 0) = false := by simpa using h0
      have e2 : (n == 0) = false := by simpa using h0
      have hgo2 := hgo hc h0
      have h0l : 0 < n := by omega
      have HE1 := hid e1; have HE2 := hid e2; have HGO := hid hgo2
      have HEO := hid fun (j : Nat) (hj : j ≤ n) => exF_ok hpl (by rw [← HN.out]; exact h0l) j (by rw [← HN.out]; exact hj)
      have HPLC := hid hpl
      generalize chB L = CE at *
      clear hbad hnil hgo hgo2 hc hpl h0 e1 e2
      go_enter Try.func36, Try.ntmps36
      go_upto_region 2 with (fail)
      simp only [Nat.add_assoc, Nat.reduceAdd]
      rw [← HW1.out]
      clear HW1
      rw [← hB2]
      try rw [← hB3]
      try rw [← hB4]
      try rw [← hB5]
      try rw [← hB7]
      clear hB2 hB3 hB4 hB5 hB7 hz1
      go_upto_region 5 with (first | (go_at_call 68; refine HCK.out.mono ?_; rintro e w2 ⟨rfl, hb2⟩; have HB2 := hid hb2; clear hb2))
      have e1 := HE1.out; have e2 := HE2.out
      go_upto_region 8 with (fail)
      clear e1 e2
      obtain ⟨w3, hw3⟩ : ∃ w3, w3 = (w2.alloc (.cells #[.int .i64 0, .int .i64 0] 52)).alloc (.cells #[.int .i64 0, .int .i64 0] 52) := ⟨_, rfl⟩
      obtain ⟨b9, hb9⟩ : ∃ b9, b9 = w2.heap.size := ⟨_, rfl⟩
      obtain ⟨b10, hb10⟩ : ∃ b10, b10 = w2.heap.size + 1 := ⟨_, rfl⟩
      have hf9 : FrB w3 b9 z0 := by rw [hw3, hb9]; exact old_blk (nw_blk rfl)
      have hf10 : FrB w3 b10 z0 := by rw [hw3, hb10]; exact nw_blk (by simp)
      have hb23 : Below w2.heap.size w2 w3 := by rw [hw3]; exact ((Below.refl _ _).alloc (Nat.le_refl _) _).alloc (by simp) _
      have HB3' := hid (bnext0 HB2.out hb23)
      have HG3 := hid (HF4.out.below HB3'.out); have HG5 := hid (HF5.out.below HB3'.out)
      rw [← hw3]
      try rw [← hb10]
      try rw [← hb9]
      have hs2 := HB2.out.size
      have HNX := hid (show (B2 ≠ B3 ∧ B2 ≠ b9 ∧ B2 ≠ b10 ∧ B3 ≠ b9 ∧ B3 ≠ b10 ∧ b9 ≠ b10) ∧ (w.heap.size ≤ B2 ∧ w.heap.size ≤ B3 ∧ w.heap.size ≤ b9 ∧ w.heap.size ≤ b10) ∧ (B2 ≠ B4 ∧ B3 ≠ B4 ∧ b9 ≠ B4 ∧ b10 ≠ B4) ∧ (B2 ≠ B5 ∧ B3 ≠ B5 ∧ b9 ≠ B5 ∧ b10 ≠ B5) ∧ (B2 ≠ B7 ∧ B3 ≠ B7 ∧ b9 ≠ B7 ∧ b10 ≠ B7) from by
        obtain ⟨⟨x1, x2, x3, x4, x5, x6⟩, ⟨v1, v2, v3, v4⟩, ⟨y1, y2, y3, y4⟩, l7, k2, k3, k4, k5⟩ := HNE.out
        refine ⟨⟨x1, ?_, ?_, ?_, ?_, ?_⟩, ⟨y1, y2, ?_, ?_⟩, ⟨x2, x4, ?_, ?_⟩, ⟨x3, x5, ?_, ?_⟩, v1, v2, ?_, ?_⟩ <;> omega)
      have HLW := hid (HB1.out.trans (HB3'.out.mono HB1.out.size))
      have HF9 := hid hf9; have HF10 := hid hf10
      clear hw3 hb9 hb10 hf9 hf10 hb23 hs2 HB2
      go_wp2_with fail
      go_loopw [33] (fun iv wr => ∃ j : Nat, j ≤ n ∧ iv = .int .i64 j ∧ Hid (ExSt L j wr B2 B3 b9 b10) ∧ Hid (FrB wr B4 z0 ∧ FrB wr B5 z0 ∧ FrB wr B7 z0) ∧ Hid (Below w.heap.size w wr)) (fun iv _ => n - (intOf iv).toNat)
      case atStart => exact ⟨0, by omega, rfl, hid ⟨⟨z0, z0, z0, z0⟩, ⟨HG3.out.a, HG3.out.b, HF9.out, HF10.out⟩, fun h => absurd h (by omega)⟩, hid ⟨HG3.out.c, HG3.out.d, HG5.out⟩, HLW⟩
      case round =>
        obtain ⟨j, hj, rfl, hE, hZ, hB⟩ := hrel
        by_cases hjn : j < n
        · have hjl : j < L.length := by rw [← HN.out]; exact hjn
          obtain ⟨bb, ob, rfl, hbb, hcc⟩ := HR.out.at (by omega)
          have hrng := range_below (hcc j hjl) hB.out hbb
          have hgd : L.getD j bx0 = L[j] := by rw [List.getD_eq_getElem?_getD, List.getElem?_eq_getElem hjl]; rfl
          have hvp := HPLC.out _ (List.getElem_mem hjl)
          have hx0 : j = 0 → exF L j = ex0 (L.getD j bx0) := fun h => by rw [h]; rfl
          have hxs : exF L (j + 1) = exS (exF L j) (L.getD j bx0) := rfl
          rw [hgd] at hx0 hxs
          generalize L[j] = v at *
          have q0 : (j : Int) < (n : Int) := by omega
          have HRG := hid hrng
          have HAX := hid fun W : World => addV_any v.x v.w (ok_prd hvp.x hvp.w) W
          have HAY := hid fun W : World => addV_any v.y v.h (ok_prd hvp.y hvp.h) W
          have hxe : v.x.add v.w = v.xe := rfl
          have hye : v.y.add v.h = v.ye := rfl
          rw [hxe] at HAX
          rw [hye] at HAY
          have HX0 := hid hx0; have HXS := hid hxs; have HVP := hid hvp; have HEJ := hid (HEO.out j (by omega))
          clear hcc hbb hrng hgd hx0 hxs hvp hxe hye hjl
          go_upto_region 11 with (refine wp_load_bxat rfl (.tmp 36) rfl bb (ob + j * 15) v rfl HRG.out ?_)
          obtain ⟨w4, hw4⟩ : ∃ w4, w4 = wr.alloc (.cells #[.int .i64 v.nd.kind, .int .i64 v.nd.sign, .int .i64 v.nd.turn, .bool v.nd.mir, .int .i64 v.nd.state, .int .i64 v.nd.mn, .int .i64 v.nd.mx, .int .i64 v.x.n, .int .i64 v.x.d, .int .i64 v.y.n, .int .i64 v.y.d, .int .i64 v.w.n, .int .i64 v.w.d, .int .i64 v.h.n, .int .i64 v.h.d] 54) := ⟨_, rfl⟩
          obtain ⟨b12, hb12⟩ : ∃ b12, b12 = wr.heap.size := ⟨_, rfl⟩
          have hbx : BxB w4 b12 v := by rw [hw4, hb12]; exact nw_blk rfl
          have hbw : Below wr.heap.size wr w4 := by rw [hw4]; exact (Below.refl _ _).alloc (Nat.le_refl _) _
          rw [← hw4]
          try rw [← hb12]
          have HBX := hid hbx; have HB4 := hid hbw; have HB12 := hid (Nat.le_of_eq hb12.symm)
          clear hw4 hb12 hbx hbw
          refine region_al2 93 [0, 1, 2, 3, 4, 5, 6, 7, 8, 9] 10 11 [12, 13] 13 14 _ _ (.cells #[.int .i64 0, .int .i64 0] 52 (0, 0)) (.cells #[.int .i64 0, .int .i64 0] 52 (0, 0)) (w0 := w4) (by kernel_rfl) (by kernel_rfl) rfl (Below.refl _ _) rfl rfl rfl rfl (by decide) Try.xalF13 Try.xalF14' ?_
          apply Exists.intro
          refine ⟨?hq, ?ht⟩
          case hq =>
            intro wb hwb
            have HWB := hid hwb
            have HZA := hid (below_class (wb := wb) (Nat.le_refl wb.heap.size) fun z => HAX.out z.val)
            have HZB := hid (below_class (wb := wb) (Nat.le_refl wb.heap.size) fun z => HAY.out z.val)
            have cy := fun z : BW wb.heap.size wb => ((HBX.out.below HWB.out).below z.ok).cells
            have i7 := fun z => (cy z).k7; have i8 := fun z => (cy z).k8; have i9 := fun z => (cy z).k9; have i10 := fun z => (cy z).k10; have i11 := fun z => (cy z).k11; have i12 := fun z => (cy z).k12; have i13 := fun z => (cy z).k13; have i14 := fun z => (cy z).k14
            clear cy hwb
            simp only [List.map_cons, List.map_nil, List.getD_cons_zero, List.getD_cons_succ]
            repeat (go_big_quiet_step (first | (go_at_call 69; with_reducible exact (HZA.out _)) | (go_at_call 69; with_reducible exact (HZB.out _))))
            refine wpQuiet_nil ?_
            exact rfl
          case ht =>
            intro b13 b14 w5 hp13 hp14 hne h13 h14 hb5
            simp only [List.map_cons, List.map_nil, List.getD_cons_zero, List.getD_cons_succ]
            have hy1 : FrB w5 b13 ⟨0, 0⟩ := h13
            have hy2 : FrB w5 b14 ⟨0, 0⟩ := h14
            obtain ⟨⟨j1, j2⟩, ⟨j3, j4⟩, _⟩ := hy1.cells
            obtain ⟨⟨j5, j6⟩, ⟨j7, j8⟩, _⟩ := hy2.cells
            have HY1 := hid hy1; have HY2 := hid hy2; have HB5 := hid hb5
            have HP := hid (And.intro hp13 (And.intro hp14 hne))
            clear h13 h14 hb5 hy1 hy2 hp13 hp14
            go_upto_region 12 with (fail)
            obtain ⟨w6, hw6⟩ : ∃ w6, w6 = (((w5.setCell ⟨b13, 0, none⟩ (.int .i64 v.xe.n)).setCell ⟨b13, 1, none⟩ (.int .i64 v.xe.d)).setCell ⟨b14, 0, none⟩ (.int .i64 v.ye.n)).setCell ⟨b14, 1, none⟩ (.int .i64 v.ye.d) := ⟨_, rfl⟩
            obtain ⟨hp13, hp14, _⟩ := HP.out
            have hfx : FrB w6 b13 v.xe := by rw [hw6]; exact ((HY1.out.set (g := v.xe)).far (Ne.symm hne)).far (Ne.symm hne)
            have hfy : FrB w6 b14 v.ye := by rw [hw6]; exact ((HY2.out.far hne).far hne).set (g := v.ye)
            have hb46 : Below w4.heap.size w4 w6 := by rw [hw6]; exact (((HB5.out.setCell hp13 _).setCell hp13 _).setCell hp14 _).setCell hp14 _
            rw [← hw6]
            have HFX := hid hfx; have HFY := hid hfy; have HB6 := hid (bnext0 HB4.out hb46); have HBX6 := hid (HBX.out.below hb46)
            obtain ⟨e, he1, he2⟩ := hE.out
            have HE6 := hid (he1.below HB6.out); have HEE := hid he2
            have HZ6 := hid (show FrB w6 B4 z0 ∧ FrB w6 B5 z0 ∧ FrB w6 B7 z0 from ⟨hZ.out.1.below HB6.out, hZ.out.2.1.below HB6.out, hZ.out.2.2.below HB6.out⟩)
            have HBW := hid (hB.out.trans (HB6.out.mono hB.out.size))
            have hlt9 := lt_of_block he1.a
            have hlt3 := lt_of_block he1.b
            have hlt10 := lt_of_block he1.c
            have hlt11 := lt_of_block he1.d
            have hs4 := HB4.out.size
            have hs12 : b12 < w4.heap.size := lt_of_block HBX.out
            have h12 : wr.heap.size ≤ b12 := HB12.out
            have HNE2 := hid (show ((B2 ≠ b12 ∧ B3 ≠ b12 ∧ b9 ≠ b12 ∧ b10 ≠ b12) ∧ (B2 ≠ b13 ∧ B3 ≠ b13 ∧ b9 ≠ b13 ∧ b10 ≠ b13) ∧ B2 ≠ b14 ∧ B3 ≠ b14 ∧ b9 ≠ b14 ∧ b10 ≠ b14) from by omega)
            clear hw6 hfx hfy hb46 HY1 HY2 HB5 HP hp13 hp14 hne he1 he2 hE hZ hB HBX j1 j2 j3 j4 j5 j6 j7 j8 hlt9 hlt3 hlt10 hlt11 hs4 hs12 h12
            go_upto_if 49 with (fail)
            go_cut [49] (fun s9 wx => Hid (Fr4 wx B2 B3 b9 b10 (exF L j).x (exF L j).y (exF L j).r (exF L j).l) ∧ Hid (BxB wx b12 v ∧ FrB wx b13 v.xe ∧ FrB wx b14 v.ye) ∧ Hid (FrB wx B4 z0 ∧ FrB wx B5 z0 ∧ FrB wx B7 z0) ∧ Hid (Below w.heap.size w wx))
            case first =>
             by_cases hj0 : j = 0
             · have g1 : ((j : Int) == 0) = true := by simp [hj0]
               have g2 : (j == 0) = true := by simp [hj0]
               have HX := hid (HX0.out hj0)
               clear hj0
               go_upto_region 13 with (fail)
               obtain ⟨⟨x1, x2, x3, x4, x5, x6⟩, ⟨y1, y2, y3, y4⟩, ⟨r1, r2, r3, r4⟩, ⟨s1, s2, s3, s4⟩, t1, t2, t3, t4⟩ := HNX.out
               obtain ⟨⟨a1, a2, a3, a4⟩, ⟨c1, c2, c3, c4⟩, d1, d2, d3, d4⟩ := HNE2.out
               have HKB := hid fun k => BxB.cells (show BxB (wsq w6.drew B2 B3 b9 b10 v.x v.y v.xe v.ye k) b12 v from (wsq_blk a1 a2 a3 a4 k).trans HBX6.out)
               have HKX := hid fun k => (wsq_far (x := v.x) (y := v.y) (z := v.xe) (u := v.ye) (drew_frb HFX.out) c1 c2 c3 c4 k).cells.1
               have HKY := hid fun k => (wsq_far (x := v.x) (y := v.y) (z := v.xe) (u := v.ye) (drew_frb HFY.out) d1 d2 d3 d4 k).cells.1
               refine region_ld4 (x := v.x) (y := v.y) (z := v.xe) (u := v.ye) [0, 1, 2, 3, 4, 5] [6, 7, 8, 9] B2 B3 b9 b10 (by kernel_rfl) HE6.out x1 x2 x3 x4 x5 x6 ?_
               simp only [List.map_cons, List.map_nil, List.getD_cons_zero, List.getD_cons_succ]
               refine pure_fld7 rfl (.tmp 12) rfl b12 rfl ?_
               simp only [Act.put, List.setIfInBounds_toArray, List.set_cons_succ, List.set_cons_zero]
               refine pure_load rfl (.tmp 50) rfl b12 7 v.x rfl (fun k => ⟨(HKB.out k).k7, (HKB.out k).k8⟩) ?_
               simp only [Act.put, List.setIfInBounds_toArray, List.set_cons_succ, List.set_cons_zero]
               refine pure_fld8 rfl (.tmp 12) rfl b12 rfl ?_
               simp only [Act.put, List.setIfInBounds_toArray, List.set_cons_succ, List.set_cons_zero]
               refine pure_load rfl (.tmp 52) rfl b12 9 v.y rfl (fun k => ⟨(HKB.out k).k9, (HKB.out k).k10⟩) ?_
               simp only [Act.put, List.setIfInBounds_toArray, List.set_cons_succ, List.set_cons_zero]
               refine pure_load rfl (.tmp 13) rfl b13 0 v.xe rfl HKX.out ?_
               simp only [Act.put, List.setIfInBounds_toArray, List.set_cons_succ, List.set_cons_zero]
               refine pure_load rfl (.tmp 14) rfl b14 0 v.ye rfl HKY.out ?_
               simp only [Act.put, List.setIfInBounds_toArray, List.set_cons_succ, List.set_cons_zero]
               refine sto_fr rfl rfl (.tmp 2) (.tmp 51) rfl B2 v.x rfl rfl (drew_frb HE6.out.a) rfl ?_
               refine sto_fr rfl rfl (.tmp 3) (.tmp 53) rfl B3 v.y rfl rfl (wsq_1 x1 (drew_frb HE6.out.b)) rfl ?_
               refine sto_fr rfl rfl (.tmp 9) (.tmp 54) rfl b9 v.xe rfl rfl (wsq_2 x2 x4 (drew_frb HE6.out.c)) rfl ?_
               refine sto_fr rfl rfl (.tmp 10) (.tmp 55) rfl b10 v.ye rfl rfl (wsq_3 x3 x5 x6 (drew_frb HE6.out.d)) rfl ?_
               show wpSto _ _ _ [] _ _
               unfold wpSto
               obtain ⟨w9, hw9⟩ : ∃ w9, w9 = wsq w6.drew B2 B3 b9 b10 v.x v.y v.xe v.ye (0 + 1 + 1 + 1 + 1) := ⟨_, rfl⟩
               have hst : Fr4 w9 B2 B3 b9 b10 v.x v.y v.xe v.ye := by rw [hw9]; exact Fr4.set (W := w6.drew) ⟨drew_frb HE6.out.a, drew_frb HE6.out.b, drew_frb HE6.out.c, drew_frb HE6.out.d⟩ x1 x2 x3 x4 x5 x6
               have hsb : Below w.heap.size w w9 := by rw [hw9]; exact Below.st4 HBW.out.drew y1 y2 y3 y4
               have hz9 : FrB w9 B4 z0 ∧ FrB w9 B5 z0 ∧ FrB w9 B7 z0 := by rw [hw9]; exact ⟨FrB.st4 (drew_frb HZ6.out.1) r1 r2 r3 r4, FrB.st4 (drew_frb HZ6.out.2.1) s1 s2 s3 s4, FrB.st4 (drew_frb HZ6.out.2.2) t1 t2 t3 t4⟩
               have HES := hid (show Fr4 w9 B2 B3 b9 b10 (exF L j).x (exF L j).y (exF L j).r (exF L j).l from by rw [HX.out]; exact hst)
               have HFB := hid (show BxB w9 b12 v ∧ FrB w9 b13 v.xe ∧ FrB w9 b14 v.ye from by rw [hw9]; exact ⟨(wsq_blk a1 a2 a3 a4 (0 + 1 + 1 + 1 + 1)).trans HBX6.out, FrB.st4 (drew_frb HFX.out) c1 c2 c3 c4, FrB.st4 (drew_frb HFY.out) d1 d2 d3 d4⟩)
               have HSB := hid hsb; have HZ9 := hid hz9
               rw [← hw9]
               clear hst hsb hz9 hw9 HKB HKX HKY x1 x2 x3 x4 x5 x6 y1 y2 y3 y4 r1 r2 r3 r4 s1 s2 s3 s4 t1 t2 t3 t4 a1 a2 a3 a4 c1 c2 c3 c4 d1 d2 d3 d4
               go_wp2_with fail
               go_meet
               exact ⟨HES, HFB, HZ9, HSB⟩
             · have g1 : ((j : Int) == 0) = false := by simpa using hj0
               have g2 : (j == 0) = false := by simpa using hj0
               have HEq := hid (HEE.out (by omega))
               clear hj0
               go_wp2_with fail
               go_meet
               exact ⟨hid (by rw [← HEq.out]; exact HE6.out), hid ⟨HBX6.out, HFX.out, HFY.out⟩, HZ6, HBW⟩
            obtain ⟨hE7, hF7, hZ7, hB7⟩ := hcut
            obtain ⟨w7, hw7⟩ : ∃ W, W = wc := ⟨_, rfl⟩
            rw [← hw7] at hE7 hF7 hZ7 hB7
            rw [← hw7]
            clear hw7 HE6 HBX6 HFX HFY HZ6 HBW HEE HX0 HNE2 HB6 HB4
            obtain ⟨e, hee⟩ : ∃ e, e = exF L j := ⟨_, rfl⟩
            rw [← hee] at hE7 HEJ HXS
            clear hee
            go_upto_region 14 with (fail)
            have HEJ2 := HEJ
            have HM1 := hid fun W : World => leastV_any e.x v.x (ok_prd HEJ2.out.x HVP.out.x) W
            have HM2 := hid fun W : World => leastV_any e.y v.y (ok_prd HEJ2.out.y HVP.out.y) W
            have HM3 := hid fun W : World => mostV_any e.r v.xe (ok_prd HEJ2.out.r HVP.out.xe) W
            have HM4 := hid fun W : World => mostV_any e.l v.ye (ok_prd HEJ2.out.l HVP.out.ye) W
            have HXE := hid (show exS e v = exF L (j + 1) from by rw [HXS.out])
            have hxe : exS e v = ⟨minF e.x v.x, minF e.y v.y, maxF e.r v.xe, maxF e.l v.ye⟩ := rfl
            rw [hxe] at HXE
            generalize minF e.x v.x = g1' at *
            generalize minF e.y v.y = g2' at *
            generalize maxF e.r v.xe = g3' at *
            generalize maxF e.l v.ye = g4' at *
            clear hxe
            refine region_perm 93 [0, 1, 2, 3, 4, 5, 6, 7, 8, 9, 10, 11, 12, 13] [14, 15, 16, 17] (w0 := w7) (by kernel_rfl) (by kernel_rfl) rfl (Below.refl _ _) ?_
            apply Exists.intro
            refine ⟨?hq, ?ht⟩
            case hq =>
              intro wb hwb
              have HWB := hid hwb
              have HZA := hid (below_class (wb := wb) (Nat.le_refl wb.heap.size) fun z => HM1.out z.val)
              have HZB := hid (below_class (wb := wb) (Nat.le_refl wb.heap.size) fun z => HM2.out z.val)
              have HZC := hid (below_class (wb := wb) (Nat.le_refl wb.heap.size) fun z => HM3.out z.val)
              have HZD := hid (below_class (wb := wb) (Nat.le_refl wb.heap.size) fun z => HM4.out z.val)
              have cy := fun z : BW wb.heap.size wb => ((hF7.out.1.below HWB.out).below z.ok).cells
              have i7 := fun z => (cy z).k7; have i8 := fun z => (cy z).k8; have i9 := fun z => (cy z).k9; have i10 := fun z => (cy z).k10
              have c4 := fun z : BW wb.heap.size wb => (hE7.out.below HWB.out).below z.ok
              have l1 := fun z => (c4 z).a.cells.1.1; have l2 := fun z => (c4 z).a.cells.1.2
              have l3 := fun z => (c4 z).b.cells.1.1; have l4 := fun z => (c4 z).b.cells.1.2
              have l5 := fun z => (c4 z).c.cells.1.1; have l6 := fun z => (c4 z).c.cells.1.2
              have l7 := fun z => (c4 z).d.cells.1.1; have l8 := fun z => (c4 z).d.cells.1.2
              have cx := fun z : BW wb.heap.size wb => ((hF7.out.2.1.below HWB.out).below z.ok).cells
              have m1 := fun z => (cx z).1.1; have m2 := fun z => (cx z).1.2
              have cz := fun z : BW wb.heap.size wb => ((hF7.out.2.2.below HWB.out).below z.ok).cells
              have m3 := fun z => (cz z).1.1; have m4 := fun z => (cz z).1.2
              clear cy c4 cx cz hwb
              simp only [List.map_cons, List.map_nil, List.getD_cons_zero, List.getD_cons_succ]
              repeat (go_big_quiet_step (first | (go_at_call 70; with_reducible exact (HZA.out _)) | (go_at_call 70; with_reducible exact (HZB.out _)) | (go_at_call 71; with_reducible exact (HZC.out _)) | (go_at_call 71; with_reducible exact (HZD.out _))))
              refine wpQuiet_nil ?_
              exact rfl
            case ht =>
              intro w8 hb8
              obtain ⟨⟨x1, x2, x3, x4, x5, x6⟩, ⟨y1, y2, y3, y4⟩, ⟨r1, r2, r3, r4⟩, ⟨s1, s2, s3, s4⟩, t1, t2, t3, t4⟩ := HNX.out
              have HE8 := hid (hE7.out.below hb8)
              obtain ⟨⟨a1, a2⟩, ⟨a3, a4⟩, _⟩ := HE8.out.a.cells
              obtain ⟨⟨c1, c2⟩, ⟨c3, c4⟩, _⟩ := HE8.out.b.cells
              obtain ⟨⟨d1, d2⟩, ⟨d3, d4⟩, _⟩ := HE8.out.c.cells
              obtain ⟨⟨f1, f2⟩, ⟨f3, f4⟩, _⟩ := HE8.out.d.cells
              have HZ8 := hid (show FrB w8 B4 z0 ∧ FrB w8 B5 z0 ∧ FrB w8 B7 z0 from ⟨hZ7.out.1.below hb8, hZ7.out.2.1.below hb8, hZ7.out.2.2.below hb8⟩)
              have HB8 := hid (hB7.out.trans (hb8.mono hB7.out.size))
              have HNY := hid (And.intro (And.intro y1 (And.intro y2 (And.intro y3 y4))) (And.intro (And.intro r1 (And.intro r2 (And.intro r3 r4))) (And.intro (And.intro s1 (And.intro s2 (And.intro s3 s4))) (And.intro t1 (And.intro t2 (And.intro t3 t4))))))
              clear hb8 y1 y2 y3 y4 r1 r2 r3 r4 s1 s2 s3 s4 t1 t2 t3 t4 HM1 HM2 HM3 HM4
              simp only [List.map_cons, List.map_nil, List.getD_cons_zero, List.getD_cons_succ]
              go_upto_region 15 with (fail)
              obtain ⟨w9, hw9⟩ : ∃ w9, w9 = st4 w8 B2 B3 b9 b10 g1' g2' g3' g4' := ⟨_, rfl⟩
              obtain ⟨⟨y1, y2, y3, y4⟩, ⟨r1, r2, r3, r4⟩, ⟨s1, s2, s3, s4⟩, t1, t2, t3, t4⟩ := HNY.out
              have hst : Fr4 w9 B2 B3 b9 b10 g1' g2' g3' g4' := by rw [hw9]; exact Fr4.set HE8.out x1 x2 x3 x4 x5 x6
              have hsb : Below w.heap.size w w9 := by rw [hw9]; exact Below.st4 HB8.out y1 y2 y3 y4
              have hz9 : FrB w9 B4 z0 ∧ FrB w9 B5 z0 ∧ FrB w9 B7 z0 := by rw [hw9]; exact ⟨FrB.st4 HZ8.out.1 r1 r2 r3 r4, FrB.st4 HZ8.out.2.1 s1 s2 s3 s4, FrB.st4 HZ8.out.2.2 t1 t2 t3 t4⟩
              have HES := hid (show ExSt L (j + 1) w9 B2 B3 b9 b10 from ⟨⟨g1', g2', g3', g4'⟩, hst, fun _ => HXE.out⟩)
              have HSB := hid hsb; have HZ9 := hid hz9
              unfold st4 at hw9
              rw [← hw9]
              clear hst hsb hz9 hw9 x1 x2 x3 x4 x5 x6 y1 y2 y3 y4 r1 r2 r3 r4 s1 s2 s3 s4 t1 t2 t3 t4 a1 a2 a3 a4 c1 c2 c3 c4 d1 d2 d3 d4 f1 f2 f3 f4
              go_wp2_with fail
              go_roundw
              case rel => exact ⟨j + 1, by omega, by go_num, HES, HZ9, HSB⟩
              case measure => simp [intOf]; omega
        · obtain rfl : j = n := by omega
          have q0 : decide ((j : Int) < (j : Int)) = false := by simp
          obtain ⟨e, he1, he2⟩ := hE.out
          have hee := he2 h0l
          have heo := HEO.out j (by omega)
          have hgo := HGO.out
          rw [← hee] at heo hgo
          have HSU1 := hid fun W : World => subV_any e.r e.x (ok_prd heo.r heo.x) (ok_abs heo.x) W
          have HSU2 := hid fun W : World => subV_any e.l e.y (ok_prd heo.l heo.y) (ok_abs heo.y) W
          generalize e.r.sub e.x = ww at HSU1 hgo
          generalize e.l.sub e.y = hh at HSU2 hgo
          have HGO2 := hid hgo
          have HE4 := hid he1
          clear he1 he2 hee heo hgo hE HGO HEO HPLC
          go_upto_region 16 with (fail)
          refine region_perm 93 [0, 1, 2, 3, 4, 5] [6, 7] (w0 := wr) (by kernel_rfl) (by kernel_rfl) rfl (Below.refl _ _) ?_
          apply Exists.intro
          refine ⟨?hq, ?ht⟩
          case hq =>
            intro wb hwb
            have HWB := hid hwb
            have HZA := hid (below_class (wb := wb) (Nat.le_refl wb.heap.size) fun z => HSU1.out z.val)
            have HZB := hid (below_class (wb := wb) (Nat.le_refl wb.heap.size) fun z => HSU2.out z.val)
            have c4 := fun z : BW wb.heap.size wb => (HE4.out.below HWB.out).below z.ok
            have l1 := fun z => (c4 z).a.cells.1.1; have l2 := fun z => (c4 z).a.cells.1.2
            have l3 := fun z => (c4 z).b.cells.1.1; have l4 := fun z => (c4 z).b.cells.1.2
            have l5 := fun z => (c4 z).c.cells.1.1; have l6 := fun z => (c4 z).c.cells.1.2
            have l7 := fun z => (c4 z).d.cells.1.1; have l8 := fun z => (c4 z).d.cells.1.2
            clear c4 hwb
            simp only [List.map_cons, List.map_nil, List.getD_cons_zero, List.getD_cons_succ]
            repeat (go_big_quiet_step (first | (go_at_call 72; with_reducible exact (HZA.out _)) | (go_at_call 72; with_reducible exact (HZB.out _))))
            refine wpQuiet_nil ?_
            exact rfl
          case ht =>
            intro w8 hb8
            have HE8 := hid (HE4.out.below hb8)
            have hz4 := hZ.out.1.below hb8
            have hz5 := hZ.out.2.1.below hb8
            have HZ7 := hid (hZ.out.2.2.below hb8)
            have HB8 := hid (hB.out.trans (hb8.mono hB.out.size))
            obtain ⟨⟨c1, c2⟩, ⟨c3, c4⟩, _⟩ := hz4.cells
            obtain ⟨⟨d1, d2⟩, ⟨d3, d4⟩, _⟩ := hz5.cells
            obtain ⟨⟨x1, x2, x3, x4, x5, x6⟩, ⟨v1, v2, v3, v4⟩, ⟨y1, y2, y3, y4⟩, _⟩ := HNE.out
            have HZ45 := hid (And.intro hz4 hz5)
            clear hb8 hz4 hz5 HSU1 HSU2 HE4 hB hZ
            simp only [List.map_cons, List.map_nil, List.getD_cons_zero, List.getD_cons_succ]
            go_upto_region 17 with (fail)
            obtain ⟨w9, hw9⟩ : ∃ w9, w9 = (((w8.setCell ⟨B4, 0, none⟩ (.int .i64 ww.n)).setCell ⟨B4, 1, none⟩ (.int .i64 ww.d)).setCell ⟨B5, 0, none⟩ (.int .i64 hh.n)).setCell ⟨B5, 1, none⟩ (.int .i64 hh.d) := ⟨_, rfl⟩
            have h4 : Fr4 w9 B2 B3 B4 B5 e.x e.y ww hh := by
              rw [hw9]
              exact ⟨(((HE8.out.a.far (Ne.symm x2)).far (Ne.symm x2)).far (Ne.symm x3)).far (Ne.symm x3), (((HE8.out.b.far (Ne.symm x4)).far (Ne.symm x4)).far (Ne.symm x5)).far (Ne.symm x5), ((HZ45.out.1.set (g := ww)).far (Ne.symm x6)).far (Ne.symm x6), ((HZ45.out.2.far x6).far x6).set (g := hh)⟩
            have h7 : FrB w9 B7 z0 := by rw [hw9]; exact (((HZ7.out.far v3).far v3).far v4).far v4
            have hb9 : Below w.heap.size w w9 := by rw [hw9]; exact (((HB8.out.setCell y3 _).setCell y3 _).setCell y4 _).setCell y4 _
            rw [← hw9]
            have HF4 := hid h4; have HF7 := hid h7; have HB9 := hid hb9
            clear h4 h7 hb9 hw9 c1 c2 c3 c4 d1 d2 d3 d4 x1 x2 x3 x4 x5 x6 v1 v2 v3 v4 y1 y2 y3 y4 HZ45 HZ7 HB8 HE8
            have HV1 := hid fun W : World => valid_any ww W
            have HV2 := hid fun W : World => valid_any hh W
            obtain ⟨⟨c1, c2⟩, _, _⟩ := HF4.out.c.cells
            cases hv1 : okB ww with
            | true =>
              rw [hv1] at HV1
              cases hv2 : okB hh with
              | true =>
                rw [hv2] at HV2
                have HX := hid (HGO2.out.trans (if_pos ⟨okB_iff.1 hv1, okB_iff.1 hv2⟩))
                clear hv1 hv2
                go_upto_region 19 with (first | (go_at_call 59; with_reducible refine (HV1.out _).mono ?_; rintro e' w10 ⟨rfl, hb10⟩; have HB10 := hid hb10; obtain ⟨⟨d1, d2⟩, _, _⟩ := (HF4.out.below hb10).d.cells; clear hb10 c1 c2) | (go_at_call 59; with_reducible refine (HV2.out _).mono ?_; rintro e' w11 ⟨rfl, hb11⟩; have HB11 := hid (bnext0 HB10.out hb11); clear hb11 d1 d2))
                have HG2 := hid (HF4.out.below HB11.out)
                have HBL := hid (HB9.out.trans (((Below.refl w9.heap.size w9).trans HB11.out).drew.mono HB9.out.size))
                obtain ⟨⟨x1, x2, x3, x4, x5, x6⟩, ⟨v1, v2, v3, v4⟩, ⟨y1, y2, y3, y4⟩, _⟩ := HNE.out
                have HWK := hid fun k => wsq_keep (W := w11.drew) (x := e.x) (y := e.y) (z := ww) (u := hh) ⟨drew_frb HG2.out.a, drew_frb HG2.out.b, drew_frb HG2.out.c, drew_frb HG2.out.d⟩ x1 x2 x3 x4 x5 x6 k
                refine region_ld4 (x := e.x) (y := e.y) (z := ww) (u := hh) [0, 1, 2, 3] [4, 5, 6, 7, 8] B2 B3 B4 B5 (by kernel_rfl) HG2.out x1 x2 x3 x4 x5 x6 ?_
                simp only [List.map_cons, List.map_nil, List.getD_cons_zero, List.getD_cons_succ]
                refine pure_load rfl (.tmp 2) rfl B2 0 e.x rfl (fun k => (HWK.out k).a.cells.1) ?_
                simp only [Act.put, List.setIfInBounds_toArray, List.set_cons_succ, List.set_cons_zero]
                refine pure_load rfl (.tmp 3) rfl B3 0 e.y rfl (fun k => (HWK.out k).b.cells.1) ?_
                simp only [Act.put, List.setIfInBounds_toArray, List.set_cons_succ, List.set_cons_zero]
                refine pure_load rfl (.tmp 4) rfl B4 0 ww rfl (fun k => (HWK.out k).c.cells.1) ?_
                simp only [Act.put, List.setIfInBounds_toArray, List.set_cons_succ, List.set_cons_zero]
                refine pure_load rfl (.tmp 5) rfl B5 0 hh rfl (fun k => (HWK.out k).d.cells.1) ?_
                simp only [Act.put, List.setIfInBounds_toArray, List.set_cons_succ, List.set_cons_zero]
                refine sto_fr rfl rfl (.tmp 2) (.tmp 89) rfl B2 e.x rfl rfl (drew_frb HG2.out.a) rfl ?_
                refine sto_fr rfl rfl (.tmp 3) (.tmp 90) rfl B3 e.y rfl rfl (wsq_1 x1 (drew_frb HG2.out.b)) rfl ?_
                refine sto_fr rfl rfl (.tmp 4) (.tmp 91) rfl B4 ww rfl rfl (wsq_2 x2 x4 (drew_frb HG2.out.c)) rfl ?_
                refine sto_fr rfl rfl (.tmp 5) (.tmp 92) rfl B5 hh rfl rfl (wsq_3 x3 x5 x6 (drew_frb HG2.out.d)) rfl ?_
                refine sto_assign rfl (.const (.int .i64 0)) rfl ?_
                simp only [Act.put, List.setIfInBounds_toArray, List.set_cons_succ, List.set_cons_zero]
                show wpSto _ _ _ [] _ _
                unfold wpSto
                obtain ⟨w12, hw12⟩ : ∃ w12, w12 = wsq w11.drew B2 B3 B4 B5 e.x e.y ww hh (0 + 1 + 1 + 1 + 1) := ⟨_, rfl⟩
                have hst : Fr4 w12 B2 B3 B4 B5 e.x e.y ww hh := by rw [hw12]; exact Fr4.set (W := w11.drew) ⟨drew_frb HG2.out.a, drew_frb HG2.out.b, drew_frb HG2.out.c, drew_frb HG2.out.d⟩ x1 x2 x3 x4 x5 x6
                have hsb : Below w.heap.size w w12 := by rw [hw12]; exact Below.st4 HBL.out y1 y2 y3 y4
                rw [← hw12]
                obtain ⟨⟨e1, e2⟩, _, _⟩ := hst.a.cells
                obtain ⟨⟨e3, e4⟩, _, _⟩ := hst.b.cells
                obtain ⟨⟨e5, e6⟩, _, _⟩ := hst.c.cells
                obtain ⟨⟨e7, e8⟩, _, _⟩ := hst.d.cells
                have HSB := hid hsb
                clear hst hsb hw12 HWK x1 x2 x3 x4 x5 x6 y1 y2 y3 y4 v1 v2 v3 v4
                go_wp2_with fail
                exact bodyPost_ret (v := .tuple #[.agg #[.int .i64 e.x.n, .int .i64 e.x.d], .agg #[.int .i64 e.y.n, .int .i64 e.y.d], .agg #[.int .i64 ww.n, .int .i64 ww.d], .agg #[.int .i64 hh.n, .int .i64 hh.d], .int .i64 0]) (by simp only [results, Try.results36]; simp [go_sem, e1, e2, e3, e4, e5, e6, e7, e8]) rfl (HPO.out _ _ _ HX.out rfl HSB.out)
              | false =>
                rw [hv2] at HV2
                have HX := hid (HGO2.out.trans (if_neg fun h => by have := okB_iff.2 h.2; rw [hv2] at this; cases this))
                clear hv1 hv2
                go_upto_region 18 with (first | (go_at_call 59; with_reducible refine (HV1.out _).mono ?_; rintro e' w10 ⟨rfl, hb10⟩; have HB10 := hid hb10; obtain ⟨⟨d1, d2⟩, _, _⟩ := (HF4.out.below hb10).d.cells; clear hb10 c1 c2) | (go_at_call 59; with_reducible refine (HV2.out _).mono ?_; rintro e' w11 ⟨rfl, hb11⟩; have HB11 := hid (bnext0 HB10.out hb11); clear hb11 d1 d2))
                have HG2 := hid (HF4.out.below HB11.out); have HG5 := hid (HF7.out.below HB11.out)
                have HBL := hid (HB9.out.trans (((Below.refl w9.heap.size w9).trans HB11.out).drew.mono HB9.out.size))
                obtain ⟨⟨x1, x2, x3, x4, x5, x6⟩, ⟨v1, v2, v3, v4⟩, ⟨y1, y2, y3, y4⟩, _⟩ := HNE.out
                have HW7 := hid fun k => (wsq_far (x := z0) (y := z0) (z := z0) (u := z0) (drew_frb HG5.out) v1 v2 v3 v4 k).cells.1
                refine region_ld4 (x := z0) (y := z0) (z := z0) (u := z0) [0, 1, 2, 3] [4, 5, 6, 7, 8] B2 B3 B4 B5 (by kernel_rfl) HG2.out x1 x2 x3 x4 x5 x6 ?_
                simp only [List.map_cons, List.map_nil, List.getD_cons_zero, List.getD_cons_succ]
                refine pure_load rfl (.tmp 7) rfl B7 0 z0 rfl HW7.out ?_
                simp only [Act.put, List.setIfInBounds_toArray, List.set_cons_succ, List.set_cons_zero]
                refine pure_load rfl (.tmp 7) rfl B7 0 z0 rfl HW7.out ?_
                simp only [Act.put, List.setIfInBounds_toArray, List.set_cons_succ, List.set_cons_zero]
                refine pure_load rfl (.tmp 7) rfl B7 0 z0 rfl HW7.out ?_
                simp only [Act.put, List.setIfInBounds_toArray, List.set_cons_succ, List.set_cons_zero]
                refine pure_load rfl (.tmp 7) rfl B7 0 z0 rfl HW7.out ?_
                simp only [Act.put, List.setIfInBounds_toArray, List.set_cons_succ, List.set_cons_zero]
                refine sto_fr rfl rfl (.tmp 2) (.tmp 85) rfl B2 z0 rfl rfl (drew_frb HG2.out.a) rfl ?_
                refine sto_fr rfl rfl (.tmp 3) (.tmp 86) rfl B3 z0 rfl rfl (wsq_1 x1 (drew_frb HG2.out.b)) rfl ?_
                refine sto_fr rfl rfl (.tmp 4) (.tmp 87) rfl B4 z0 rfl rfl (wsq_2 x2 x4 (drew_frb HG2.out.c)) rfl ?_
                refine sto_fr rfl rfl (.tmp 5) (.tmp 88) rfl B5 z0 rfl rfl (wsq_3 x3 x5 x6 (drew_frb HG2.out.d)) rfl ?_
                refine sto_assign rfl (.const (.int .i64 41)) rfl ?_
                simp only [Act.put, List.setIfInBounds_toArray, List.set_cons_succ, List.set_cons_zero]
                show wpSto _ _ _ [] _ _
                unfold wpSto
                obtain ⟨w9, hw9⟩ : ∃ w9, w9 = wsq w11.drew B2 B3 B4 B5 z0 z0 z0 z0 (0 + 1 + 1 + 1 + 1) := ⟨_, rfl⟩
                have hst : Fr4 w9 B2 B3 B4 B5 z0 z0 z0 z0 := by rw [hw9]; exact Fr4.set (W := w11.drew) ⟨drew_frb HG2.out.a, drew_frb HG2.out.b, drew_frb HG2.out.c, drew_frb HG2.out.d⟩ x1 x2 x3 x4 x5 x6
                have hsb : Below w.heap.size w w9 := by rw [hw9]; exact Below.st4 HBL.out y1 y2 y3 y4
                rw [← hw9]
                obtain ⟨⟨e1, e2⟩, _, _⟩ := hst.a.cells
                obtain ⟨⟨e3, e4⟩, _, _⟩ := hst.b.cells
                obtain ⟨⟨e5, e6⟩, _, _⟩ := hst.c.cells
                obtain ⟨⟨e7, e8⟩, _, _⟩ := hst.d.cells
                have HSB := hid hsb
                clear hst hsb hw9 HW7 x1 x2 x3 x4 x5 x6 y1 y2 y3 y4 v1 v2 v3 v4
                simp only [z0] at e1 e2 e3 e4 e5 e6 e7 e8
                simp only [z0]
                go_wp2_with fail
                exact bodyPost_ret (v := .tuple #[.agg #[.int .i64 0, .int .i64 0], .agg #[.int .i64 0, .int .i64 0], .agg #[.int .i64 0, .int .i64 0], .agg #[.int .i64 0, .int .i64 0], .int .i64 41]) (by simp only [results, Try.results36]; simp [go_sem, e1, e2, e3, e4, e5, e6, e7, e8]) rfl (HPO.out _ _ _ HX.out rfl HSB.out)
            | false =>
              rw [hv1] at HV1
              have HX := hid (HGO2.out.trans (if_neg fun h => by have := okB_iff.2 h.1; rw [hv1] at this; cases this))
              clear hv1
              go_upto_region 18 with (first | (go_at_call 59; with_reducible refine (HV1.out _).mono ?_; rintro e' w11 ⟨rfl, hb11⟩; have HB11 := hid hb11; clear hb11 c1 c2))
              have HG2 := hid (HF4.out.below HB11.out); have HG5 := hid (HF7.out.below HB11.out)
              have HBL := hid (HB9.out.trans (((Below.refl w9.heap.size w9).trans HB11.out).drew.mono HB9.out.size))
              obtain ⟨⟨x1, x2, x3, x4, x5, x6⟩, ⟨v1, v2, v3, v4⟩, ⟨y1, y2, y3, y4⟩, _⟩ := HNE.out
              have HW7 := hid fun k => (wsq_far (x := z0) (y := z0) (z := z0) (u := z0) (drew_frb HG5.out) v1 v2 v3 v4 k).cells.1
              refine region_ld4 (x := z0) (y := z0) (z := z0) (u := z0) [0, 1, 2, 3] [4, 5, 6, 7, 8] B2 B3 B4 B5 (by kernel_rfl) HG2.out x1 x2 x3 x4 x5 x6 ?_
              simp only [List.map_cons, List.map_nil, List.getD_cons_zero, List.getD_cons_succ]
              refine pure_load rfl (.tmp 7) rfl B7 0 z0 rfl HW7.out ?_
              simp only [Act.put, List.setIfInBounds_toArray, List.set_cons_succ, List.set_cons_zero]
              refine pure_load rfl (.tmp 7) rfl B7 0 z0 rfl HW7.out ?_
              simp only [Act.put, List.setIfInBounds_toArray, List.set_cons_succ, List.set_cons_zero]
              refine pure_load rfl (.tmp 7) rfl B7 0 z0 rfl HW7.out ?_
              simp only [Act.put, List.setIfInBounds_toArray, List.set_cons_succ, List.set_cons_zero]
              refine pure_load rfl (.tmp 7) rfl B7 0 z0 rfl HW7.out ?_
              simp only [Act.put, List.setIfInBounds_toArray, List.set_cons_succ, List.set_cons_zero]
              refine sto_fr rfl rfl (.tmp 2) (.tmp 85) rfl B2 z0 rfl rfl (drew_frb HG2.out.a) rfl ?_
              refine sto_fr rfl rfl (.tmp 3) (.tmp 86) rfl B3 z0 rfl rfl (wsq_1 x1 (drew_frb HG2.out.b)) rfl ?_
              refine sto_fr rfl rfl (.tmp 4) (.tmp 87) rfl B4 z0 rfl rfl (wsq_2 x2 x4 (drew_frb HG2.out.c)) rfl ?_
              refine sto_fr rfl rfl (.tmp 5) (.tmp 88) rfl B5 z0 rfl rfl (wsq_3 x3 x5 x6 (drew_frb HG2.out.d)) rfl ?_
              refine sto_assign rfl (.const (.int .i64 41)) rfl ?_
              simp only [Act.put, List.setIfInBounds_toArray, List.set_cons_succ, List.set_cons_zero]
              show wpSto _ _ _ [] _ _
              unfold wpSto
              obtain ⟨w9, hw9⟩ : ∃ w9, w9 = wsq w11.drew B2 B3 B4 B5 z0 z0 z0 z0 (0 + 1 + 1 + 1 + 1) := ⟨_, rfl⟩
              have hst : Fr4 w9 B2 B3 B4 B5 z0 z0 z0 z0 := by rw [hw9]; exact Fr4.set (W := w11.drew) ⟨drew_frb HG2.out.a, drew_frb HG2.out.b, drew_frb HG2.out.c, drew_frb HG2.out.d⟩ x1 x2 x3 x4 x5 x6
              have hsb : Below w.heap.size w w9 := by rw [hw9]; exact Below.st4 HBL.out y1 y2 y3 y4
              rw [← hw9]
              obtain ⟨⟨e1, e2⟩, _, _⟩ := hst.a.cells
              obtain ⟨⟨e3, e4⟩, _, _⟩ := hst.b.cells
              obtain ⟨⟨e5, e6⟩, _, _⟩ := hst.c.cells
              obtain ⟨⟨e7, e8⟩, _, _⟩ := hst.d.cells
              have HSB := hid hsb
              clear hst hsb hw9 HW7 x1 x2 x3 x4 x5 x6 y1 y2 y3 y4 v1 v2 v3 v4
              simp only [z0] at e1 e2 e3 e4 e5 e6 e7 e8
              simp only [z0]
              go_wp2_with fail
              exact bodyPost_ret (v := .tuple #[.agg #[.int .i64 0, .int .i64 0], .agg #[.int .i64 0, .int .i64 0], .agg #[.int .i64 0, .int .i64 0], .agg #[.int .i64 0, .int .i64 0], .int .i64 41]) (by simp only [results, Try.results36]; simp [go_sem, e1, e2, e3, e4, e5, e6, e7, e8]) rfl (HPO.out _ _ _ HX.out rfl HSB.out)
end Go.Proofs.Ytfkcpcdndleboaa

/- WALK: the document's Extent (printed by gen_extr.py). -/
namespace Go.Proofs.Ytfkcpcdndleboaa
open Go.RowKit
/-- Four fractions in a box. -/
def Ar8 (W : World) (b : Nat) (x y z u : Fr) : Prop := W.heap[b]? = some (.cells #[.int .i64 x.n, .int .i64 x.d, .int .i64 y.n, .int .i64 y.d, .int .i64 z.n, .int .i64 z.d, .int .i64 u.n, .int .i64 u.d] 74 (0, 0))
theorem Ar8.below {W W' : World} {b : Nat} {x y z u : Fr} (h : Ar8 W b x y z u) (hb : Below W.heap.size W W') : Ar8 W' b x y z u := (hb.block b (lt_of_block h)).trans h
theorem Ar8.far {W : World} {b b' k : Nat} {x y z u : Fr} {v : Value} (h : Ar8 W b x y z u) (hne : b' ≠ b) : Ar8 (W.setCell ⟨b', k, none⟩ v) b x y z u := (far_blk hne).trans h
structure Ar8C (W : World) (b : Nat) (x y z u : Fr) : Prop where

  c0 : W.cell? ⟨b, 0, none⟩ = some (.int .i64 x.n)
  f0 : W.frozen? ⟨b, 0, none⟩ = false
  c1 : W.cell? ⟨b, 1, none⟩ = some (.int .i64 x.d)
  f1 : W.frozen? ⟨b, 1, none⟩ = false
  c2 : W.cell? ⟨b, 2, none⟩ = some (.int .i64 y.n)
  f2 : W.frozen? ⟨b, 2, none⟩ = false
  c3 : W.cell? ⟨b, 3, none⟩ = some (.int .i64 y.d)
  f3 : W.frozen? ⟨b, 3, none⟩ = false
  c4 : W.cell? ⟨b, 4, none⟩ = some (.int .i64 z.n)
  f4 : W.frozen? ⟨b, 4, none⟩ = false
  c5 : W.cell? ⟨b, 5, none⟩ = some (.int .i64 z.d)
  f5 : W.frozen? ⟨b, 5, none⟩ = false
  c6 : W.cell? ⟨b, 6, none⟩ = some (.int .i64 u.n)
  f6 : W.frozen? ⟨b, 6, none⟩ = false
  c7 : W.cell? ⟨b, 7, none⟩ = some (.int .i64 u.d)
  f7 : W.frozen? ⟨b, 7, none⟩ = false
theorem Ar8.cells {W : World} {b : Nat} {x y z u : Fr} (h : Ar8 W b x y z u) : Ar8C W b x y z u := by
  unfold Ar8 at h
  constructor <;> simp [World.cell?, World.frozen?, h]
def set8 (W : World) (b : Nat) (x y z u : Fr) : World := (((((((W.setCell ⟨b, 0, none⟩ (.int .i64 x.n)).setCell ⟨b, 1, none⟩ (.int .i64 x.d)).setCell ⟨b, 2, none⟩ (.int .i64 y.n)).setCell ⟨b, 3, none⟩ (.int .i64 y.d)).setCell ⟨b, 4, none⟩ (.int .i64 z.n)).setCell ⟨b, 5, none⟩ (.int .i64 z.d)).setCell ⟨b, 6, none⟩ (.int .i64 u.n)).setCell ⟨b, 7, none⟩ (.int .i64 u.d)
theorem Ar8.set {W : World} {b : Nat} {x y z u x' y' z' u' : Fr} (h : Ar8 W b x y z u) : Ar8 (set8 W b x' y' z' u') b x' y' z' u' := by
  unfold Ar8 at h ⊢
  unfold set8
  simp [World.setCell, h, Array.getElem?_modify] <;> rfl
theorem Below.set8 {B : Nat} {w W : World} {b : Nat} {x y z u : Fr} (h : Below B w W) (hb : B ≤ b) : Below B w (Go.Proofs.Ytfkcpcdndleboaa.set8 W b x y z u) := by
  unfold Go.Proofs.Ytfkcpcdndleboaa.set8
  exact (((((((h.setCell hb _).setCell hb _).setCell hb _).setCell hb _).setCell hb _).setCell hb _).setCell hb _).setCell hb _
def ExtPostR (L : List Bxv) (w : World) (e : Ending) (w' : World) : Prop :=
  e = .returned (.tuple #[.agg #[.int .i64 (extV L).1.x.n, .int .i64 (extV L).1.x.d, .int .i64 (extV L).1.y.n, .int .i64 (extV L).1.y.d, .int .i64 (extV L).1.r.n, .int .i64 (extV L).1.r.d, .int .i64 (extV L).1.l.n, .int .i64 (extV L).1.l.d], .int .i64 (extV L).2]) ∧ Below w.heap.size w w'
set_option maxRecDepth 100000 in
set_option maxHeartbeats 8000000 in
theorem extentR_any (L : List Bxv) (A : Option Addr) (c : Nat) (hn : L.length ≤ 1000000) (w : World) (r : Bxs w w.heap.size A L) :
    Calls Try.prog 38 #[.slice A L.length c] w (ExtPostR L w) := by
  obtain ⟨w1, hw1⟩ : ∃ w1, w1 = (w.alloc (.cells #[.int .i64 0, .int .i64 0, .int .i64 0, .int .i64 0, .int .i64 0, .int .i64 0, .int .i64 0, .int .i64 0] 74)).alloc (.cells #[.int .i64 0, .int .i64 0, .int .i64 0, .int .i64 0, .int .i64 0, .int .i64 0, .int .i64 0, .int .i64 0] 74) := ⟨_, rfl⟩
  have hb1 : Below w.heap.size w w1 := by rw [hw1]; exact ((Below.refl _ _).alloc (Nat.le_refl _) _).alloc (by simp) _
  have hz1 : w1.heap.size = w.heap.size + 2 := by rw [hw1]; simp
  have hf2 : Ar8 w1 w.heap.size z0 z0 z0 z0 := by rw [hw1]; exact old_blk (nw_blk rfl)
  have hf4 : Ar8 w1 (w.heap.size + 1) z0 z0 z0 z0 := by rw [hw1]; exact nw_blk (by simp)
  have HCK := hid (allPlaced_any L A c hn w1 ((r.below hb1).more hb1.size))
  have hbad : chB L ≠ 0 → extV L = (⟨z0, z0, z0, z0⟩, chB L) := fun h => if_pos h
  have hnil : ¬ chB L ≠ 0 → L.length = 0 → extV L = (⟨z0, z0, z0, z0⟩, 3) := fun h h2 => (if_neg h).trans (if_pos h2)
  have hgo : ¬ chB L ≠ 0 → ¬ L.length = 0 → extV L = @ite _ (((exF L L.length).r.sub (exF L L.length).x).ok ∧ ((exF L L.length).l.sub (exF L L.length).y).ok) (Classical.propDecidable _) (⟨(exF L L.length).x, (exF L L.length).y, (exF L L.length).r.sub (exF L L.length).x, (exF L L.length).l.sub (exF L L.length).y⟩, 0) (⟨z0, z0, z0, z0⟩, 41) := fun h h2 => (if_neg h).trans (if_neg h2)
  have hch := chB_zero (L := L)
  have HPO := hid fun (e : Ending) (w' : World) (V : Ext × Int) (h0 : extV L = V) (h1 : e = .returned (.tuple #[.agg #[.int .i64 V.1.x.n, .int .i64 V.1.x.d, .int .i64 V.1.y.n, .int .i64 V.1.y.d, .int .i64 V.1.r.n, .int .i64 V.1.r.d, .int .i64 V.1.l.n, .int .i64 V.1.l.d], .int .i64 V.2])) (h2 : Below w.heap.size w w') => (show ExtPostR L w e w' from ⟨by rw [h0]; exact h1, h2⟩)
  have HR := hid r
  have HW1 := hid hw1; have HB1 := hid hb1; have HZ1 := hid hz1; have HA2 := hid hf2; have HA4 := hid hf4
  clear hw1 hb1 hf2 hf4 r
  obtain ⟨B2, hB2⟩ : ∃ B2, B2 = w.heap.size := ⟨_, rfl⟩
  obtain ⟨B4, hB4⟩ : ∃ B4, B4 = B2 + 1 := ⟨_, rfl⟩
  rw [← hB2] at HA2 HA4
  rw [← hB4] at HA4
  have HNE := hid (show w.heap.size ≤ B2 ∧ B2 ≠ B4 ∧ B4 < w1.heap.size ∧ B2 < w1.heap.size from by omega)
  obtain ⟨n, hnn⟩ : ∃ n, n = L.length := ⟨_, rfl⟩
  rw [← hnn] at hn HCK hnil hgo hch ⊢
  have HN := hid hnn; have HCH := hid hch
  clear hnn hch

  by_cases hc : chB L ≠ 0
  · have HX := hid (hbad hc)
    have e0' : (chB L != 0) = true := by simpa using hc
    generalize chB L = CE at *
    clear hbad hnil hgo hc
    go_enter Try.func38, Try.ntmps38
    go_upto_region 2 with (fail)
    try simp only [Nat.add_assoc, Nat.reduceAdd]
    rw [← HW1.out]
    clear HW1
    rw [← hB2]
    try rw [← hB4]
    clear hB2 hB4 hz1
    go_upto_region 4 with (first | (go_at_call 73; refine HCK.out.mono ?_; rintro e w2 ⟨rfl, hb2⟩; have HB2 := hid hb2; clear hb2))
    have HG2 := hid (HA2.out.below HB2.out); have HG4 := hid (HA4.out.below HB2.out)
    have HBL := hid (HB1.out.trans (HB2.out.mono HB1.out.size))
    have q2 := HG2.out.cells
    have q4 := HG4.out.cells
    have a0 := q2.c0; have b0 := q2.f0; have d0 := q4.c0
    have a1 := q2.c1; have b1 := q2.f1; have d1 := q4.c1
    have a2 := q2.c2; have b2 := q2.f2; have d2 := q4.c2
    have a3 := q2.c3; have b3 := q2.f3; have d3 := q4.c3
    have a4 := q2.c4; have b4 := q2.f4; have d4 := q4.c4
    have a5 := q2.c5; have b5 := q2.f5; have d5 := q4.c5
    have a6 := q2.c6; have b6 := q2.f6; have d6 := q4.c6
    have a7 := q2.c7; have b7 := q2.f7; have d7 := q4.c7
    have hst := Ar8.set (x' := z0) (y' := z0) (z' := z0) (u' := z0) HG2.out
    have hsb := Below.set8 (x := z0) (y := z0) (z := z0) (u := z0) HBL.out HNE.out.1
    have qs := hst.cells
    have HSB := hid hsb
    unfold set8 at qs HSB
    have e0 := qs.c0
    have e1 := qs.c1
    have e2 := qs.c2
    have e3 := qs.c3
    have e4 := qs.c4
    have e5 := qs.c5
    have e6 := qs.c6
    have e7 := qs.c7
    clear q2 q4 qs hst hsb
    simp only [z0] at a0 d0 e0 a1 d1 e1 a2 d2 e2 a3 d3 e3 a4 d4 e4 a5 d5 e5 a6 d6 e6 a7 d7 e7
    go_wp2_with fail
    exact bodyPost_ret (v := .tuple #[.agg #[.int .i64 0, .int .i64 0, .int .i64 0, .int .i64 0, .int .i64 0, .int .i64 0, .int .i64 0, .int .i64 0], .int .i64 CE]) (by simp only [results, Try.results38]; simp [go_sem, e0, e1, e2, e3, e4, e5, e6, e7]) rfl (HPO.out _ _ _ HX.out rfl HSB.out)
  · have e0' : (chB L != 0) = false := by simpa using hc
    have hpl := (HCH.out (by simpa using hc)).2
    have hn2 := (HCH.out (by simpa using hc)).1
    by_cases h0 : n = 0
    · have HX := hid (hnil hc h0)
      have e1' : ((n : Int) == 0) = true := by simp [h0]
      have e2' : (n == 0) = true := by simp [h0]
      have HE1 := hid e1'; have HE2 := hid e2'
      generalize chB L = CE at *
      clear hbad hnil hgo hc hpl h0 e1' e2'
      go_enter Try.func38, Try.ntmps38
      go_upto_region 2 with (fail)
      try simp only [Nat.add_assoc, Nat.reduceAdd]
      rw [← HW1.out]
      clear HW1
      rw [← hB2]
      try rw [← hB4]
      clear hB2 hB4 hz1
      go_upto_region 5 with (first | (go_at_call 73; refine HCK.out.mono ?_; rintro e w2 ⟨rfl, hb2⟩; have HB2 := hid hb2; clear hb2))
      have HG2 := hid (HA2.out.below HB2.out); have HG4 := hid (HA4.out.below HB2.out)
      have HBL := hid (HB1.out.trans (HB2.out.mono HB1.out.size))
      have e1' := HE1.out; have e2' := HE2.out
      go_upto_region 6 with (fail)
      have q2 := HG2.out.cells
      have q4 := HG4.out.cells
      have a0 := q2.c0; have b0 := q2.f0; have d0 := q4.c0
      have a1 := q2.c1; have b1 := q2.f1; have d1 := q4.c1
      have a2 := q2.c2; have b2 := q2.f2; have d2 := q4.c2
      have a3 := q2.c3; have b3 := q2.f3; have d3 := q4.c3
      have a4 := q2.c4; have b4 := q2.f4; have d4 := q4.c4
      have a5 := q2.c5; have b5 := q2.f5; have d5 := q4.c5
      have a6 := q2.c6; have b6 := q2.f6; have d6 := q4.c6
      have a7 := q2.c7; have b7 := q2.f7; have d7 := q4.c7
      have hst := Ar8.set (x' := z0) (y' := z0) (z' := z0) (u' := z0) HG2.out
      have hsb := Below.set8 (x := z0) (y := z0) (z := z0) (u := z0) HBL.out HNE.out.1
      have qs := hst.cells
      have HSB := hid hsb
      unfold set8 at qs HSB
      have e0 := qs.c0
      have e1 := qs.c1
      have e2 := qs.c2
      have e3 := qs.c3
      have e4 := qs.c4
      have e5 := qs.c5
      have e6 := qs.c6
      have e7 := qs.c7
      clear q2 q4 qs hst hsb
      simp only [z0] at a0 d0 e0 a1 d1 e1 a2 d2 e2 a3 d3 e3 a4 d4 e4 a5 d5 e5 a6 d6 e6 a7 d7 e7
      go_wp2_with fail
      exact bodyPost_ret (v := .tuple #[.agg #[.int .i64 0, .int .i64 0, .int .i64 0, .int .i64 0, .int .i64 0, .int .i64 0, .int .i64 0, .int .i64 0], .int .i64 3]) (by simp only [results, Try.results38]; simp [go_sem, e0, e1, e2, e3, e4, e5, e6, e7]) rfl (HPO.out _ _ _ HX.out rfl HSB.out)
    · have e1' : ((n : Int) == 0) = false := by simpa using h0
      have e2' : (n == 0) = false := by simpa using h0
      have hgo2 := hgo hc h0
      have h0l : 0 < n := by omega
      have HE1 := hid e1'; have HE2 := hid e2'; have HGO := hid hgo2
      have HEO := hid fun (j : Nat) (hj : j ≤ n) => exF_ok hpl (by rw [← HN.out]; exact h0l) j (by rw [← HN.out]; exact hj)
      have HPLC := hid hpl
      generalize chB L = CE at *
      clear hbad hnil hgo hgo2 hc hpl h0 e1' e2'
      go_enter Try.func38, Try.ntmps38
      go_upto_region 2 with (fail)
      try simp only [Nat.add_assoc, Nat.reduceAdd]
      rw [← HW1.out]
      clear HW1
      rw [← hB2]
      try rw [← hB4]
      clear hB2 hB4 hz1
      go_upto_region 5 with (first | (go_at_call 73; refine HCK.out.mono ?_; rintro e w2 ⟨rfl, hb2⟩; have HB2 := hid hb2; clear hb2))
      have e1' := HE1.out; have e2' := HE2.out
      go_upto_region 7 with (fail)
      clear e1' e2'
      have HG2 := hid (HA2.out.below HB2.out); have HG4 := hid (HA4.out.below HB2.out)
      have HLW := hid (HB1.out.trans (HB2.out.mono HB1.out.size))
      have h0L : 0 < L.length := by rw [← HN.out]; exact h0l
      obtain ⟨bb, ob, rfl, hbb, hcc⟩ := HR.out.at h0L
      have hr0 := hcc 0 h0L
      have hgd : L.getD 0 bx0 = L[0] := by rw [List.getD_eq_getElem?_getD, List.getElem?_eq_getElem h0L]; rfl
      have hv0 := HPLC.out _ (List.getElem_mem h0L)
      have hx00 : exF L 0 = ex0 (L.getD 0 bx0) := rfl
      rw [hgd] at hx00
      have HCC := hid hcc; have HBB := hid hbb
      generalize L[0] = v at hr0 hv0 hx00
      have HR0 := hid fun (U : World) (u : Below w.heap.size w U) => range_below hr0 u hbb
      have HV0 := hid hv0; have HX00 := hid hx00
      clear hcc hbb hr0 hgd hv0 hx00 h0L
      have q0' : (0 : Int) < (n : Int) := by omega
      refine region_two 111 [0, 1, 2, 3, 4, 5, 6, 7] 8 9 10 11 6 7 28 32 (f := v.x) (g := v.y) (by kernel_rfl) rfl rfl rfl rfl rfl ⟨rfl, rfl, rfl⟩ ⟨rfl, rfl, rfl⟩ ⟨rfl, rfl, rfl⟩ ⟨rfl, rfl, rfl⟩ (by decide) (by decide) (by decide) (by decide) (by decide) ?_
      apply Exists.intro
      refine ⟨?hq, ?hs, ?hv, ?ht⟩
      case hq =>
        intro wb hwb
        have HWB := hid hwb
        have cz := fun z : BW wb.heap.size wb => HR0.out z.val (HLW.out.trans ((bnext0 HWB.out z.ok).mono HLW.out.size))
        have i7 := fun z => (cz z) 7 _ rfl; have i8 := fun z => (cz z) 8 _ rfl; have i9 := fun z => (cz z) 9 _ rfl; have i10 := fun z => (cz z) 10 _ rfl
        simp only [Nat.zero_mul, Nat.add_zero] at i7 i8 i9 i10
        clear cz hwb
        simp only [List.map_cons, List.map_nil, List.getD_cons_zero, List.getD_cons_succ]
        repeat (go_big_quiet_step (fail))
        refine wpQuiet_nil ?_
        exact rfl
      case hs => exact ⟨show (6 : Nat) < 111 from by decide, show (7 : Nat) < 111 from by decide⟩
      case hv => exact ⟨rfl, rfl⟩
      case ht =>
        intro b6 b7 w3 hp6 hp7 hn67 hf6 hf7 hb3
        obtain ⟨w3', hw3⟩ : ∃ W, W = w3 := ⟨_, rfl⟩
        have HF67 := hid (And.intro hf6 hf7)
        have HB3 := hid (show Below w2.heap.size w2 w3 from hb3)
        have HN67 := hid (And.intro hp6 (And.intro hp7 hn67))
        clear hw3 hf6 hf7 hb3 hp6 hp7 hn67
        simp only [Act.put, List.setIfInBounds_toArray, List.set_cons_succ, List.set_cons_zero]
        go_upto_region 8 with (fail)
        have HL3 := hid (HLW.out.trans (HB3.out.mono HLW.out.size))
        have HAX := hid fun W : World => addW_any v.x v.w (ok_prd HV0.out.x HV0.out.w) W
        have HAY := hid fun W : World => addW_any v.y v.h (ok_prd HV0.out.y HV0.out.h) W
        have hxe : v.x.add v.w = v.xe := rfl
        have hye : v.y.add v.h = v.ye := rfl
        rw [hxe] at HAX
        rw [hye] at HAY
        clear hxe hye
        refine region_two 111 [0, 1, 2, 3, 4, 5, 6, 7, 8, 9, 10, 11] 12 13 14 15 8 9 38 44 (f := v.xe) (g := v.ye) (by kernel_rfl) rfl rfl rfl rfl rfl ⟨rfl, rfl, rfl⟩ ⟨rfl, rfl, rfl⟩ ⟨rfl, rfl, rfl⟩ ⟨rfl, rfl, rfl⟩ (by decide) (by decide) (by decide) (by decide) (by decide) ?_
        apply Exists.intro
        refine ⟨?hq, ?hs, ?hv, ?ht⟩
        case hq =>
          intro wb hwb
          have HWB := hid hwb
          have HZA := hid (below_class (wb := wb) (Nat.le_refl wb.heap.size) fun z => HAX.out z.val)
          have HZB := hid (below_class (wb := wb) (Nat.le_refl wb.heap.size) fun z => HAY.out z.val)
          have cz := fun z : BW wb.heap.size wb => HR0.out z.val (HL3.out.trans ((bnext0 HWB.out z.ok).mono HL3.out.size))
          have i11 := fun z => (cz z) 11 _ rfl; have i12 := fun z => (cz z) 12 _ rfl; have i13 := fun z => (cz z) 13 _ rfl; have i14 := fun z => (cz z) 14 _ rfl
          simp only [Nat.zero_mul, Nat.add_zero] at i11 i12 i13 i14
          have c6 := fun z : BW wb.heap.size wb => ((HF67.out.1.below HWB.out).below z.ok).cells
          have l1 := fun z => (c6 z).1.1; have l2 := fun z => (c6 z).1.2
          have c7 := fun z : BW wb.heap.size wb => ((HF67.out.2.below HWB.out).below z.ok).cells
          have l3 := fun z => (c7 z).1.1; have l4 := fun z => (c7 z).1.2
          clear cz c6 c7 hwb
          simp only [List.map_cons, List.map_nil, List.getD_cons_zero, List.getD_cons_succ]
          repeat (go_big_quiet_step (first | (go_at_call 56; with_reducible exact (HZA.out _)) | (go_at_call 56; with_reducible exact (HZB.out _))))
          refine wpQuiet_nil ?_
          exact rfl
        case hs => exact ⟨show (8 : Nat) < 111 from by decide, show (9 : Nat) < 111 from by decide⟩
        case hv => exact ⟨rfl, rfl⟩
        case ht =>
          intro b8 b9 w4 hp8 hp9 hn89 hf8 hf9 hb4
          simp only [Act.put, List.setIfInBounds_toArray, List.set_cons_succ, List.set_cons_zero]
          have hs3 := HB3.out.size
          have hs2 := HB2.out.size
          have l6 := lt_of_block HF67.out.1
          have l7 := lt_of_block HF67.out.2
          obtain ⟨h6, h7, h67⟩ := HN67.out
          obtain ⟨u2, u3, u4, u5⟩ := HNE.out
          have hl2 : w.heap.size ≤ w2.heap.size := HLW.out.size
          have HNX := hid (show (b6 ≠ b7 ∧ b6 ≠ b8 ∧ b6 ≠ b9 ∧ b7 ≠ b8 ∧ b7 ≠ b9 ∧ b8 ≠ b9) ∧ (w.heap.size ≤ b6 ∧ w.heap.size ≤ b7 ∧ w.heap.size ≤ b8 ∧ w.heap.size ≤ b9) ∧ (b6 ≠ B2 ∧ b7 ≠ B2 ∧ b8 ≠ B2 ∧ b9 ≠ B2) ∧ b6 ≠ B4 ∧ b7 ≠ B4 ∧ b8 ≠ B4 ∧ b9 ≠ B4 from by omega)
          have HX4 := hid (show Below w2.heap.size w2 w4 from bnext0 HB3.out hb4)
          have HE4 := hid (show Fr4 w4 b6 b7 b8 b9 (exF L 0).x (exF L 0).y (exF L 0).r (exF L 0).l from by rw [HX00.out]; exact ⟨HF67.out.1.below hb4, HF67.out.2.below hb4, hf8, hf9⟩)
          have HG := hid (show Ar8 w4 B2 z0 z0 z0 z0 ∧ Ar8 w4 B4 z0 z0 z0 z0 from ⟨HG2.out.below HX4.out, HG4.out.below HX4.out⟩)
          have HL4 := hid (HLW.out.trans (HX4.out.mono HLW.out.size))
          clear hs3 hs2 l6 l7 h6 h7 h67 u2 u3 u4 u5 hl2 hp8 hp9 hn89 hf8 hf9 hb4 HF67 HB3 HN67 HL3 HAX HAY HX4 HG2 HG4 HLW HB2 HV0 HX00 HR0
          go_wp2_with fail
          go_loopw [10] (fun iv wr => ∃ j : Nat, j ≤ n ∧ iv = .int .i64 j ∧ Hid (Fr4 wr b6 b7 b8 b9 (exF L j).x (exF L j).y (exF L j).r (exF L j).l) ∧ Hid (Ar8 wr B2 z0 z0 z0 z0 ∧ Ar8 wr B4 z0 z0 z0 z0) ∧ Hid (Below w.heap.size w wr)) (fun iv _ => n - (intOf iv).toNat)
          case atStart => exact ⟨0, by omega, rfl, HE4, HG, HL4⟩
          case round =>
          obtain ⟨j, hj, rfl, hE, hZ, hB⟩ := hrel
          by_cases hjn : j < n
          · have hjl : j < L.length := by rw [← HN.out]; exact hjn
            have hrng := range_below (HCC.out j hjl) hB.out HBB.out
            have hgd : L.getD j bx0 = L[j] := by rw [List.getD_eq_getElem?_getD, List.getElem?_eq_getElem hjl]; rfl
            have hvp := HPLC.out _ (List.getElem_mem hjl)
            have hxs : exF L (j + 1) = exS (exF L j) (L.getD j bx0) := rfl
            have heo := HEO.out j hj
            rw [hgd] at hxs
            generalize L[j] = u at hrng hvp hxs
            obtain ⟨e, hee⟩ : ∃ e, e = exF L j := ⟨_, rfl⟩
            rw [← hee] at hE hxs heo
            have q0 : (j : Int) < (n : Int) := by omega
            have HRG := hid hrng
            have HAX := hid fun W : World => addW_any u.x u.w (ok_prd hvp.x hvp.w) W
            have HAY := hid fun W : World => addW_any u.y u.h (ok_prd hvp.y hvp.h) W
            have hxe : u.x.add u.w = u.xe := rfl
            have hye : u.y.add u.h = u.ye := rfl
            rw [hxe] at HAX
            rw [hye] at HAY
            have HL1 := hid fun W : World => lessW_any u.x e.x (ok_prd hvp.x heo.x) W
            have HL2 := hid fun W : World => lessW_any u.y e.y (ok_prd hvp.y heo.y) W
            have HL3 := hid fun W : World => lessW_any e.r u.xe (ok_prd heo.r hvp.xe) W
            have HL4' := hid fun W : World => lessW_any e.l u.ye (ok_prd heo.l hvp.ye) W
            have hm : exS e u = ⟨minF e.x u.x, minF e.y u.y, maxF e.r u.xe, maxF e.l u.ye⟩ := rfl
            rw [hm] at hxs
            have hm1 : minF e.x u.x = if decide (u.x.lt e.x) = true then u.x else e.x := by unfold minF; simp
            have hm2 : minF e.y u.y = if decide (u.y.lt e.y) = true then u.y else e.y := by unfold minF; simp
            have hm3 : maxF e.r u.xe = if decide (e.r.lt u.xe) = true then u.xe else e.r := by unfold maxF; simp
            have hm4 : maxF e.l u.ye = if decide (e.l.lt u.ye) = true then u.ye else e.l := by unfold maxF; simp
            generalize decide (u.x.lt e.x) = t1 at HL1 hm1
            generalize decide (u.y.lt e.y) = t2 at HL2 hm2
            generalize decide (e.r.lt u.xe) = t3 at HL3 hm3
            generalize decide (e.l.lt u.ye) = t4 at HL4' hm4
            generalize minF e.x u.x = g1 at hm1 hxs
            generalize minF e.y u.y = g2 at hm2 hxs
            generalize maxF e.r u.xe = g3 at hm3 hxs
            generalize maxF e.l u.ye = g4 at hm4 hxs
            have HM1 := hid hm1; have HM2 := hid hm2; have HM3 := hid hm3; have HM4 := hid hm4; have HXS := hid hxs
            clear hrng hgd hvp hxs heo hee hxe hye hm hm1 hm2 hm3 hm4 hjl
            go_upto_region 13 with (refine wp_load_bxat rfl (.tmp 53) rfl bb (ob + j * 15) u rfl HRG.out ?_)
            obtain ⟨w5, hw5⟩ : ∃ w5, w5 = wr.alloc (.cells #[.int .i64 u.nd.kind, .int .i64 u.nd.sign, .int .i64 u.nd.turn, .bool u.nd.mir, .int .i64 u.nd.state, .int .i64 u.nd.mn, .int .i64 u.nd.mx, .int .i64 u.x.n, .int .i64 u.x.d, .int .i64 u.y.n, .int .i64 u.y.d, .int .i64 u.w.n, .int .i64 u.w.d, .int .i64 u.h.n, .int .i64 u.h.d] 54) := ⟨_, rfl⟩
            obtain ⟨b11, hb11⟩ : ∃ b11, b11 = wr.heap.size := ⟨_, rfl⟩
            have hbx : BxB w5 b11 u := by rw [hw5, hb11]; exact nw_blk rfl
            have hbw : Below wr.heap.size wr w5 := by rw [hw5]; exact (Below.refl _ _).alloc (Nat.le_refl _) _
            have q6 := lt_of_block hE.out.a
            have q7 := lt_of_block hE.out.b
            have q8 := lt_of_block hE.out.c
            have q9 := lt_of_block hE.out.d
            have HN11 := hid (show b6 ≠ b11 ∧ b7 ≠ b11 ∧ b8 ≠ b11 ∧ b9 ≠ b11 from by omega)
            rw [← hw5]
            try rw [← hb11]
            have hE0 := hid (hE.out.below hbw); have hX0 := hid hbx; have hZ0 := hid (show Ar8 w5 B2 z0 z0 z0 z0 ∧ Ar8 w5 B4 z0 z0 z0 z0 from ⟨hZ.out.1.below hbw, hZ.out.2.below hbw⟩); have hB0 := hid (hB.out.trans (hbw.mono hB.out.size))
            clear hw5 hb11 hbx hbw hE hZ hB q6 q7 q8 q9 HRG
            have hcx := hX0.out.cells
            have i7 := hcx.k7
            have i8 := hcx.k8
            obtain ⟨⟨a1, a2⟩, ⟨a3, a4⟩, _⟩ := hE0.out.a.cells
            clear hcx
            go_upto_if 58 with (first | (go_at_call 57; refine (HL1.out _).mono ?_; rintro e' x1 ⟨rfl, hy1⟩; have HY1 := hid hy1; clear hy1))
            clear a1 a2 a3 a4 i7 i8
            go_cut [58] (fun s9 wx => Hid (Fr4 wx b6 b7 b8 b9 g1 e.y e.r e.l) ∧ Hid (BxB wx b11 u) ∧ Hid (Ar8 wx B2 z0 z0 z0 z0 ∧ Ar8 wx B4 z0 z0 z0 z0) ∧ Hid (Below w.heap.size w wx))
            case first =>
              have HE := hid (hE0.out.below HY1.out); have HX := hid (hX0.out.below HY1.out)
              have HZ := hid (show Ar8 x1 B2 z0 z0 z0 z0 ∧ Ar8 x1 B4 z0 z0 z0 z0 from ⟨hZ0.out.1.below HY1.out, hZ0.out.2.below HY1.out⟩)
              have HB := hid (hB0.out.trans (HY1.out.mono hB0.out.size))
              obtain ⟨⟨n1, n2, n3, n4, n5, n6⟩, ⟨y1', y2', y3', y4'⟩, ⟨r1, r2, r3, r4⟩, s1, s2, s3, s4⟩ := HNX.out
              obtain ⟨o1, o2, o3, o4⟩ := HN11.out
              cases ht : t1 with
              | true =>
                have HG := hid (show g1 = u.x by rw [HM1.out, ht]; rfl)
                have hcx := HX.out.cells
                have i7 := hcx.k7
                have i8 := hcx.k8
                obtain ⟨⟨a1, a2⟩, ⟨a3, a4⟩, _⟩ := HE.out.a.cells
                clear hcx n1 n2 n3 n4 n5 n6 y1' y2' y3' y4' r1 r2 r3 r4 s1 s2 s3 s4 o1 o2 o3 o4 ht
                go_wp2_with fail
                go_meet
                obtain ⟨⟨n1, n2, n3, n4, n5, n6⟩, ⟨y1', y2', y3', y4'⟩, ⟨r1, r2, r3, r4⟩, s1, s2, s3, s4⟩ := HNX.out
                obtain ⟨o1, o2, o3, o4⟩ := HN11.out
                exact ⟨hid (by rw [HG.out]; exact ⟨(HE.out.a.set (g := u.x)), ((HE.out.b.far (n1)).far (n1)), ((HE.out.c.far (n2)).far (n2)), ((HE.out.d.far (n3)).far (n3))⟩), hid ((HX.out.far o1).far o1), hid ⟨(HZ.out.1.far r1).far r1, (HZ.out.2.far s1).far s1⟩, hid ((HB.out.setCell y1' _).setCell y1' _)⟩
              | false =>
                have HG := hid (show g1 = e.x by rw [HM1.out, ht]; rfl)
                clear n1 n2 n3 n4 n5 n6 y1' y2' y3' y4' r1 r2 r3 r4 s1 s2 s3 s4 o1 o2 o3 o4 ht
                go_wp2_with fail
                go_meet
                exact ⟨hid (by rw [HG.out]; exact HE.out), HX, HZ, HB⟩
            obtain ⟨hE1, hX1, hZ1, hB1⟩ := hcut
            obtain ⟨w21, hw21⟩ : ∃ W, W = wc := ⟨_, rfl⟩
            rw [← hw21] at hE1 hX1 hZ1 hB1
            rw [← hw21]
            clear hw21 hE0 hX0 hZ0 hB0 HY1
            have hcx := hX1.out.cells
            have i9 := hcx.k9
            have i10 := hcx.k10
            obtain ⟨⟨a1, a2⟩, ⟨a3, a4⟩, _⟩ := hE1.out.b.cells
            clear hcx
            go_upto_if 64 with (first | (go_at_call 57; refine (HL2.out _).mono ?_; rintro e' x2 ⟨rfl, hy2⟩; have HY2 := hid hy2; clear hy2))
            clear a1 a2 a3 a4 i9 i10
            go_cut [64] (fun s9 wx => Hid (Fr4 wx b6 b7 b8 b9 g1 g2 e.r e.l) ∧ Hid (BxB wx b11 u) ∧ Hid (Ar8 wx B2 z0 z0 z0 z0 ∧ Ar8 wx B4 z0 z0 z0 z0) ∧ Hid (Below w.heap.size w wx))
            case first =>
              have HE := hid (hE1.out.below HY2.out); have HX := hid (hX1.out.below HY2.out)
              have HZ := hid (show Ar8 x2 B2 z0 z0 z0 z0 ∧ Ar8 x2 B4 z0 z0 z0 z0 from ⟨hZ1.out.1.below HY2.out, hZ1.out.2.below HY2.out⟩)
              have HB := hid (hB1.out.trans (HY2.out.mono hB1.out.size))
              obtain ⟨⟨n1, n2, n3, n4, n5, n6⟩, ⟨y1', y2', y3', y4'⟩, ⟨r1, r2, r3, r4⟩, s1, s2, s3, s4⟩ := HNX.out
              obtain ⟨o1, o2, o3, o4⟩ := HN11.out
              cases ht : t2 with
              | true =>
                have HG := hid (show g2 = u.y by rw [HM2.out, ht]; rfl)
                have hcx := HX.out.cells
                have i9 := hcx.k9
                have i10 := hcx.k10
                obtain ⟨⟨a1, a2⟩, ⟨a3, a4⟩, _⟩ := HE.out.b.cells
                clear hcx n1 n2 n3 n4 n5 n6 y1' y2' y3' y4' r1 r2 r3 r4 s1 s2 s3 s4 o1 o2 o3 o4 ht
                go_wp2_with fail
                go_meet
                obtain ⟨⟨n1, n2, n3, n4, n5, n6⟩, ⟨y1', y2', y3', y4'⟩, ⟨r1, r2, r3, r4⟩, s1, s2, s3, s4⟩ := HNX.out
                obtain ⟨o1, o2, o3, o4⟩ := HN11.out
                exact ⟨hid (by rw [HG.out]; exact ⟨((HE.out.a.far (Ne.symm n1)).far (Ne.symm n1)), (HE.out.b.set (g := u.y)), ((HE.out.c.far (n4)).far (n4)), ((HE.out.d.far (n5)).far (n5))⟩), hid ((HX.out.far o2).far o2), hid ⟨(HZ.out.1.far r2).far r2, (HZ.out.2.far s2).far s2⟩, hid ((HB.out.setCell y2' _).setCell y2' _)⟩
              | false =>
                have HG := hid (show g2 = e.y by rw [HM2.out, ht]; rfl)
                clear n1 n2 n3 n4 n5 n6 y1' y2' y3' y4' r1 r2 r3 r4 s1 s2 s3 s4 o1 o2 o3 o4 ht
                go_wp2_with fail
                go_meet
                exact ⟨hid (by rw [HG.out]; exact HE.out), HX, HZ, HB⟩
            obtain ⟨hE2, hX2, hZ2, hB2⟩ := hcut
            obtain ⟨w22, hw22⟩ : ∃ W, W = wc := ⟨_, rfl⟩
            rw [← hw22] at hE2 hX2 hZ2 hB2
            rw [← hw22]
            clear hw22 hE1 hX1 hZ1 hB1 HY2
            have hcx := hX2.out.cells
            have i7 := hcx.k7
            have i8 := hcx.k8
            have i11 := hcx.k11
            have i12 := hcx.k12
            obtain ⟨⟨a1, a2⟩, ⟨a3, a4⟩, _⟩ := hE2.out.c.cells
            clear hcx
            clear a1 a2 a3 a4 i7 i8 i11 i12
            go_upto_region 17 with (fail)
            have HZA := hid (below_class (wb := w22) (Nat.le_refl w22.heap.size) fun z => HAX.out z.val)
            have HZB := hid (below_class (wb := w22) (Nat.le_refl w22.heap.size) fun z => HL3.out z.val)
            have cz := fun z : BW w22.heap.size w22 => (hX2.out.below z.ok).cells
            have i7 := fun z => (cz z).k7
            have i8 := fun z => (cz z).k8
            have i11 := fun z => (cz z).k11
            have i12 := fun z => (cz z).k12
            have cy := fun z : BW w22.heap.size w22 => (hE2.out.c.below z.ok).cells
            have a1 := fun z => (cy z).1.1; have a2 := fun z => (cy z).1.2
            clear cz cy
            refine region_below (by kernel_rfl) (by kernel_rfl) (Below.refl w22.heap.size w22) ?_
            repeat (go_big_quiet_step (first | (go_at_call 56; with_reducible exact (HZA.out _)) | (go_at_call 57; with_reducible exact (HZB.out _))))
            refine wpQuiet_nil ?_
            intro _ hw'
            obtain ⟨y3, rfl⟩ := hw'
            obtain ⟨x3, hx3⟩ : ∃ W, W = y3.val := ⟨_, rfl⟩
            have HY3 := hid (show Below w22.heap.size w22 x3 by rw [hx3]; exact y3.ok)
            rw [← hx3]
            clear hx3 a1 a2 i7 i8 i11 i12 HZA HZB
            go_upto_if 73 with (fail)
            go_cut [73] (fun s9 wx => Hid (Fr4 wx b6 b7 b8 b9 g1 g2 g3 e.l) ∧ Hid (BxB wx b11 u) ∧ Hid (Ar8 wx B2 z0 z0 z0 z0 ∧ Ar8 wx B4 z0 z0 z0 z0) ∧ Hid (Below w.heap.size w wx))
            case first =>
              have HE := hid (hE2.out.below HY3.out); have HX := hid (hX2.out.below HY3.out)
              have HZ := hid (show Ar8 x3 B2 z0 z0 z0 z0 ∧ Ar8 x3 B4 z0 z0 z0 z0 from ⟨hZ2.out.1.below HY3.out, hZ2.out.2.below HY3.out⟩)
              have HB := hid (hB2.out.trans (HY3.out.mono hB2.out.size))
              obtain ⟨⟨n1, n2, n3, n4, n5, n6⟩, ⟨y1', y2', y3', y4'⟩, ⟨r1, r2, r3, r4⟩, s1, s2, s3, s4⟩ := HNX.out
              obtain ⟨o1, o2, o3, o4⟩ := HN11.out
              cases ht : t3 with
              | true =>
                have HG := hid (show g3 = u.xe by rw [HM3.out, ht]; rfl)
                have hcx := HX.out.cells
                have i7 := hcx.k7
                have i8 := hcx.k8
                have i11 := hcx.k11
                have i12 := hcx.k12
                obtain ⟨⟨a1, a2⟩, ⟨a3, a4⟩, _⟩ := HE.out.c.cells
                clear hcx n1 n2 n3 n4 n5 n6 y1' y2' y3' y4' r1 r2 r3 r4 s1 s2 s3 s4 o1 o2 o3 o4 ht
                go_wp2_with (first | (go_at_call 56; refine (HAX.out _).mono ?_; rintro e' x9 ⟨rfl, hy9⟩; have HY9 := hid hy9; obtain ⟨⟨a1, a2⟩, ⟨a3, a4⟩, _⟩ := (HE.out.below hy9).c.cells; clear hy9))
                have HE9 := hid (HE.out.below HY9.out); have HX9 := hid (HX.out.below HY9.out)
                have HZ9 := hid (show Ar8 x9 B2 z0 z0 z0 z0 ∧ Ar8 x9 B4 z0 z0 z0 z0 from ⟨HZ.out.1.below HY9.out, HZ.out.2.below HY9.out⟩)
                have HB9 := hid (HB.out.trans (HY9.out.mono HB.out.size))
                go_meet
                obtain ⟨⟨n1, n2, n3, n4, n5, n6⟩, ⟨y1', y2', y3', y4'⟩, ⟨r1, r2, r3, r4⟩, s1, s2, s3, s4⟩ := HNX.out
                obtain ⟨o1, o2, o3, o4⟩ := HN11.out
                exact ⟨hid (by rw [HG.out]; exact ⟨((HE9.out.a.far (Ne.symm n2)).far (Ne.symm n2)), ((HE9.out.b.far (Ne.symm n4)).far (Ne.symm n4)), (HE9.out.c.set (g := u.xe)), ((HE9.out.d.far (n6)).far (n6))⟩), hid ((HX9.out.far o3).far o3), hid ⟨(HZ9.out.1.far r3).far r3, (HZ9.out.2.far s3).far s3⟩, hid ((HB9.out.setCell y3' _).setCell y3' _)⟩
              | false =>
                have HG := hid (show g3 = e.r by rw [HM3.out, ht]; rfl)
                clear n1 n2 n3 n4 n5 n6 y1' y2' y3' y4' r1 r2 r3 r4 s1 s2 s3 s4 o1 o2 o3 o4 ht
                go_wp2_with fail
                go_meet
                exact ⟨hid (by rw [HG.out]; exact HE.out), HX, HZ, HB⟩
            obtain ⟨hE3, hX3, hZ3, hB3⟩ := hcut
            obtain ⟨w23, hw23⟩ : ∃ W, W = wc := ⟨_, rfl⟩
            rw [← hw23] at hE3 hX3 hZ3 hB3
            rw [← hw23]
            clear hw23 hE2 hX2 hZ2 hB2 HY3
            have hcx := hX3.out.cells
            have i9 := hcx.k9
            have i10 := hcx.k10
            have i13 := hcx.k13
            have i14 := hcx.k14
            obtain ⟨⟨a1, a2⟩, ⟨a3, a4⟩, _⟩ := hE3.out.d.cells
            clear hcx
            clear a1 a2 a3 a4 i9 i10 i13 i14
            go_upto_region 19 with (fail)
            have HZA := hid (below_class (wb := w23) (Nat.le_refl w23.heap.size) fun z => HAY.out z.val)
            have HZB := hid (below_class (wb := w23) (Nat.le_refl w23.heap.size) fun z => HL4'.out z.val)
            have cz := fun z : BW w23.heap.size w23 => (hX3.out.below z.ok).cells
            have i9 := fun z => (cz z).k9
            have i10 := fun z => (cz z).k10
            have i13 := fun z => (cz z).k13
            have i14 := fun z => (cz z).k14
            have cy := fun z : BW w23.heap.size w23 => (hE3.out.d.below z.ok).cells
            have a1 := fun z => (cy z).1.1; have a2 := fun z => (cy z).1.2
            clear cz cy
            refine region_below (by kernel_rfl) (by kernel_rfl) (Below.refl w23.heap.size w23) ?_
            repeat (go_big_quiet_step (first | (go_at_call 56; with_reducible exact (HZA.out _)) | (go_at_call 57; with_reducible exact (HZB.out _))))
            refine wpQuiet_nil ?_
            intro _ hw'
            obtain ⟨y4, rfl⟩ := hw'
            obtain ⟨x4, hx4⟩ : ∃ W, W = y4.val := ⟨_, rfl⟩
            have HY4 := hid (show Below w23.heap.size w23 x4 by rw [hx4]; exact y4.ok)
            rw [← hx4]
            clear hx4 a1 a2 i9 i10 i13 i14 HZA HZB
            go_upto_if 85 with (fail)
            have HE := hid (hE3.out.below HY4.out); have HX := hid (hX3.out.below HY4.out)
            have HZ := hid (show Ar8 x4 B2 z0 z0 z0 z0 ∧ Ar8 x4 B4 z0 z0 z0 z0 from ⟨hZ3.out.1.below HY4.out, hZ3.out.2.below HY4.out⟩)
            have HB := hid (hB3.out.trans (HY4.out.mono hB3.out.size))
            obtain ⟨⟨n1, n2, n3, n4, n5, n6⟩, ⟨y1', y2', y3', y4'⟩, ⟨r1, r2, r3, r4⟩, s1, s2, s3, s4⟩ := HNX.out
            obtain ⟨o1, o2, o3, o4⟩ := HN11.out
            cases ht : t4 with
            | true =>
              have HG := hid (show g4 = u.ye by rw [HM4.out, ht]; rfl)
              have hcx := HX.out.cells
              have i9 := hcx.k9
              have i10 := hcx.k10
              have i13 := hcx.k13
              have i14 := hcx.k14
              obtain ⟨⟨a1, a2⟩, ⟨a3, a4⟩, _⟩ := HE.out.d.cells
              clear hcx n1 n2 n3 n4 n5 n6 y1' y2' y3' y4' r1 r2 r3 r4 s1 s2 s3 s4 o1 o2 o3 o4 ht
              go_wp2_with (first | (go_at_call 56; refine (HAY.out _).mono ?_; rintro e' x9 ⟨rfl, hy9⟩; have HY9 := hid hy9; obtain ⟨⟨a1, a2⟩, ⟨a3, a4⟩, _⟩ := (HE.out.below hy9).d.cells; clear hy9))
              have HE9 := hid (HE.out.below HY9.out); have HX9 := hid (HX.out.below HY9.out)
              have HZ9 := hid (show Ar8 x9 B2 z0 z0 z0 z0 ∧ Ar8 x9 B4 z0 z0 z0 z0 from ⟨HZ.out.1.below HY9.out, HZ.out.2.below HY9.out⟩)
              have HB9 := hid (HB.out.trans (HY9.out.mono HB.out.size))
              obtain ⟨⟨n1, n2, n3, n4, n5, n6⟩, ⟨y1', y2', y3', y4'⟩, ⟨r1, r2, r3, r4⟩, s1, s2, s3, s4⟩ := HNX.out
              obtain ⟨o1, o2, o3, o4⟩ := HN11.out
              have HF1 := hid (show Fr4 _ b6 b7 b8 b9 g1 g2 g3 g4 from by rw [HG.out]; exact ⟨((HE9.out.a.far (Ne.symm n3)).far (Ne.symm n3)), ((HE9.out.b.far (Ne.symm n5)).far (Ne.symm n5)), ((HE9.out.c.far (Ne.symm n6)).far (Ne.symm n6)), (HE9.out.d.set (g := u.ye))⟩)
              go_roundw
              case rel => exact ⟨j + 1, by omega, by go_num, hid (by rw [HXS.out]; exact HF1.out), hid ⟨(HZ9.out.1.far r4).far r4, (HZ9.out.2.far s4).far s4⟩, hid ((HB9.out.setCell y4' _).setCell y4' _)⟩
              case measure => simp [intOf]; omega
            | false =>
              have HG := hid (show g4 = e.l by rw [HM4.out, ht]; rfl)
              clear n1 n2 n3 n4 n5 n6 y1' y2' y3' y4' r1 r2 r3 r4 s1 s2 s3 s4 o1 o2 o3 o4 ht
              go_wp2_with fail
              have HF1 := hid (show Fr4 _ b6 b7 b8 b9 g1 g2 g3 g4 from by rw [HG.out]; exact HE.out)
              go_roundw
              case rel => exact ⟨j + 1, by omega, by go_num, hid (by rw [HXS.out]; exact HF1.out), HZ, HB⟩
              case measure => simp [intOf]; omega
          · obtain rfl : j = n := by omega
            have q0 : decide ((j : Int) < (j : Int)) = false := by simp
            have heo := HEO.out j (by omega)
            have hgo := HGO.out
            obtain ⟨e, hee⟩ : ∃ e, e = exF L j := ⟨_, rfl⟩
            rw [← hee] at heo hgo hE
            have HSU1 := hid fun W : World => subW_any e.r e.x (ok_prd heo.r heo.x) W
            have HSU2 := hid fun W : World => subW_any e.l e.y (ok_prd heo.l heo.y) W
            generalize e.r.sub e.x = ww at HSU1 hgo
            generalize e.l.sub e.y = hh at HSU2 hgo
            have HGO2 := hid hgo
            clear hee heo hgo HGO HEO HPLC
            go_upto_region 21 with (fail)
            refine region_two 111 [0, 1, 2, 3, 4, 5] 6 7 8 9 12 13 93 96 (f := ww) (g := hh) (by kernel_rfl) rfl rfl rfl rfl rfl ⟨rfl, rfl, rfl⟩ ⟨rfl, rfl, rfl⟩ ⟨rfl, rfl, rfl⟩ ⟨rfl, rfl, rfl⟩ (by decide) (by decide) (by decide) (by decide) (by decide) ?_
            apply Exists.intro
            refine ⟨?hq, ?hs, ?hv, ?ht⟩
            case hq =>
              intro wb hwb
              have HWB := hid hwb
              have HZA := hid (below_class (wb := wb) (Nat.le_refl wb.heap.size) fun z => HSU1.out z.val)
              have HZB := hid (below_class (wb := wb) (Nat.le_refl wb.heap.size) fun z => HSU2.out z.val)
              have c4 := fun z : BW wb.heap.size wb => (hE.out.below HWB.out).below z.ok
              have l1 := fun z => (c4 z).a.cells.1.1; have l2 := fun z => (c4 z).a.cells.1.2
              have l3 := fun z => (c4 z).b.cells.1.1; have l4 := fun z => (c4 z).b.cells.1.2
              have l5 := fun z => (c4 z).c.cells.1.1; have l6 := fun z => (c4 z).c.cells.1.2
              have l7 := fun z => (c4 z).d.cells.1.1; have l8 := fun z => (c4 z).d.cells.1.2
              clear c4 hwb
              simp only [List.map_cons, List.map_nil, List.getD_cons_zero, List.getD_cons_succ]
              repeat (go_big_quiet_step (first | (go_at_call 74; with_reducible exact (HZA.out _)) | (go_at_call 74; with_reducible exact (HZB.out _))))
              refine wpQuiet_nil ?_
              exact rfl
            case hs => exact ⟨show (12 : Nat) < 111 from by decide, show (13 : Nat) < 111 from by decide⟩
            case hv => exact ⟨rfl, rfl⟩
            case ht =>
              intro b12 b13 w8 hp12 hp13 hn hf12 hf13 hb8
              simp only [Act.put, List.setIfInBounds_toArray, List.set_cons_succ, List.set_cons_zero]
              have HE8 := hid (show Fr4 w8 b6 b7 b12 b13 e.x e.y ww hh from ⟨hE.out.a.below hb8, hE.out.b.below hb8, hf12, hf13⟩)
              have HZ8 := hid (show Ar8 w8 B2 z0 z0 z0 z0 ∧ Ar8 w8 B4 z0 z0 z0 z0 from ⟨hZ.out.1.below hb8, hZ.out.2.below hb8⟩)
              have HB8 := hid (hB.out.trans (hb8.mono hB.out.size))
              clear hp12 hp13 hn hf12 hf13 hb8 HSU1 HSU2 hE hZ hB
              go_upto_region 22 with (fail)
              have HV1 := hid fun W : World => validR_any ww W
              have HV2 := hid fun W : World => validR_any hh W
              obtain ⟨⟨c1, c2⟩, _, _⟩ := HE8.out.c.cells
              cases hv1 : okB ww with
              | true =>
                rw [hv1] at HV1
                cases hv2 : okB hh with
                | true =>
                  rw [hv2] at HV2
                  have HX := hid (HGO2.out.trans (if_pos ⟨okB_iff.1 hv1, okB_iff.1 hv2⟩))
                  clear hv1 hv2
                  go_upto_region 24 with (first | (go_at_call 55; with_reducible refine (HV1.out _).mono ?_; rintro e' w10 ⟨rfl, hb10⟩; have HB10 := hid hb10; obtain ⟨⟨d1, d2⟩, _, _⟩ := (HE8.out.below hb10).d.cells; clear hb10 c1 c2) | (go_at_call 55; with_reducible refine (HV2.out _).mono ?_; rintro e' w11 ⟨rfl, hb11⟩; have HB11 := hid (bnext0 HB10.out hb11); clear hb11 d1 d2))
                  have HE11 := hid (HE8.out.below HB11.out)
                  have HG2 := hid (HZ8.out.1.below HB11.out)
                  have HBL := hid (HB8.out.trans (HB11.out.mono HB8.out.size))
                  have HG12 := HG2; have HB12 := HBL
                  obtain ⟨⟨l1, l2⟩, _, _⟩ := HE11.out.a.cells
                  obtain ⟨⟨l3, l4⟩, _, _⟩ := HE11.out.b.cells
                  obtain ⟨⟨l5, l6⟩, _, _⟩ := HE11.out.c.cells
                  obtain ⟨⟨l7, l8⟩, _, _⟩ := HE11.out.d.cells
                  have q2 := HG12.out.cells
                  have a0 := q2.c0; have b0 := q2.f0
                  have a1 := q2.c1; have b1 := q2.f1
                  have a2 := q2.c2; have b2 := q2.f2
                  have a3 := q2.c3; have b3 := q2.f3
                  have a4 := q2.c4; have b4 := q2.f4
                  have a5 := q2.c5; have b5 := q2.f5
                  have a6 := q2.c6; have b6 := q2.f6
                  have a7 := q2.c7; have b7 := q2.f7
                  have hst := Ar8.set (x' := e.x) (y' := e.y) (z' := ww) (u' := hh) HG12.out
                  have hsb := Below.set8 (x := e.x) (y := e.y) (z := ww) (u := hh) HB12.out HNE.out.1
                  have qs := hst.cells
                  have HSB := hid hsb
                  unfold set8 at qs HSB
                  have e0 := qs.c0
                  have e1 := qs.c1
                  have e2 := qs.c2
                  have e3 := qs.c3
                  have e4 := qs.c4
                  have e5 := qs.c5
                  have e6 := qs.c6
                  have e7 := qs.c7
                  clear q2 qs hst hsb
                  simp only [z0] at a0 a1 a2 a3 a4 a5 a6 a7
                  go_wp2_with fail
                  exact bodyPost_ret (v := .tuple #[.agg #[.int .i64 e.x.n, .int .i64 e.x.d, .int .i64 e.y.n, .int .i64 e.y.d, .int .i64 ww.n, .int .i64 ww.d, .int .i64 hh.n, .int .i64 hh.d], .int .i64 0]) (by simp only [results, Try.results38]; simp [go_sem, e0, e1, e2, e3, e4, e5, e6, e7]) rfl (HPO.out _ _ _ HX.out rfl HSB.out)
                | false =>
                  rw [hv2] at HV2
                  have HX := hid (HGO2.out.trans (if_neg fun h => by have := okB_iff.2 h.2; rw [hv2] at this; cases this))
                  clear hv1 hv2
                  go_upto_region 23 with (first | (go_at_call 55; with_reducible refine (HV1.out _).mono ?_; rintro e' w10 ⟨rfl, hb10⟩; have HB10 := hid hb10; obtain ⟨⟨d1, d2⟩, _, _⟩ := (HE8.out.below hb10).d.cells; clear hb10 c1 c2) | (go_at_call 55; with_reducible refine (HV2.out _).mono ?_; rintro e' w11 ⟨rfl, hb11⟩; have HB11 := hid (bnext0 HB10.out hb11); clear hb11 d1 d2))
                  have HG2 := hid (HZ8.out.1.below HB11.out); have HG4 := hid (HZ8.out.2.below HB11.out)
                  have HBL := hid (HB8.out.trans (HB11.out.mono HB8.out.size))
                  have q2 := HG2.out.cells
                  have q4 := HG4.out.cells
                  have a0 := q2.c0; have b0 := q2.f0; have d0 := q4.c0
                  have a1 := q2.c1; have b1 := q2.f1; have d1 := q4.c1
                  have a2 := q2.c2; have b2 := q2.f2; have d2 := q4.c2
                  have a3 := q2.c3; have b3 := q2.f3; have d3 := q4.c3
                  have a4 := q2.c4; have b4 := q2.f4; have d4 := q4.c4
                  have a5 := q2.c5; have b5 := q2.f5; have d5 := q4.c5
                  have a6 := q2.c6; have b6 := q2.f6; have d6 := q4.c6
                  have a7 := q2.c7; have b7 := q2.f7; have d7 := q4.c7
                  have hst := Ar8.set (x' := z0) (y' := z0) (z' := z0) (u' := z0) HG2.out
                  have hsb := Below.set8 (x := z0) (y := z0) (z := z0) (u := z0) HBL.out HNE.out.1
                  have qs := hst.cells
                  have HSB := hid hsb
                  unfold set8 at qs HSB
                  have e0 := qs.c0
                  have e1 := qs.c1
                  have e2 := qs.c2
                  have e3 := qs.c3
                  have e4 := qs.c4
                  have e5 := qs.c5
                  have e6 := qs.c6
                  have e7 := qs.c7
                  clear q2 q4 qs hst hsb
                  simp only [z0] at a0 d0 e0 a1 d1 e1 a2 d2 e2 a3 d3 e3 a4 d4 e4 a5 d5 e5 a6 d6 e6 a7 d7 e7
                  go_wp2_with fail
                  exact bodyPost_ret (v := .tuple #[.agg #[.int .i64 0, .int .i64 0, .int .i64 0, .int .i64 0, .int .i64 0, .int .i64 0, .int .i64 0, .int .i64 0], .int .i64 41]) (by simp only [results, Try.results38]; simp [go_sem, e0, e1, e2, e3, e4, e5, e6, e7]) rfl (HPO.out _ _ _ HX.out rfl HSB.out)
              | false =>
                rw [hv1] at HV1
                have HX := hid (HGO2.out.trans (if_neg fun h => by have := okB_iff.2 h.1; rw [hv1] at this; cases this))
                clear hv1
                go_upto_region 23 with (first | (go_at_call 55; with_reducible refine (HV1.out _).mono ?_; rintro e' w11 ⟨rfl, hb11⟩; have HB11 := hid hb11; clear hb11 c1 c2))
                have HG2 := hid (HZ8.out.1.below HB11.out); have HG4 := hid (HZ8.out.2.below HB11.out)
                have HBL := hid (HB8.out.trans (HB11.out.mono HB8.out.size))
                have q2 := HG2.out.cells
                have q4 := HG4.out.cells
                have a0 := q2.c0; have b0 := q2.f0; have d0 := q4.c0
                have a1 := q2.c1; have b1 := q2.f1; have d1 := q4.c1
                have a2 := q2.c2; have b2 := q2.f2; have d2 := q4.c2
                have a3 := q2.c3; have b3 := q2.f3; have d3 := q4.c3
                have a4 := q2.c4; have b4 := q2.f4; have d4 := q4.c4
                have a5 := q2.c5; have b5 := q2.f5; have d5 := q4.c5
                have a6 := q2.c6; have b6 := q2.f6; have d6 := q4.c6
                have a7 := q2.c7; have b7 := q2.f7; have d7 := q4.c7
                have hst := Ar8.set (x' := z0) (y' := z0) (z' := z0) (u' := z0) HG2.out
                have hsb := Below.set8 (x := z0) (y := z0) (z := z0) (u := z0) HBL.out HNE.out.1
                have qs := hst.cells
                have HSB := hid hsb
                unfold set8 at qs HSB
                have e0 := qs.c0
                have e1 := qs.c1
                have e2 := qs.c2
                have e3 := qs.c3
                have e4 := qs.c4
                have e5 := qs.c5
                have e6 := qs.c6
                have e7 := qs.c7
                clear q2 q4 qs hst hsb
                simp only [z0] at a0 d0 e0 a1 d1 e1 a2 d2 e2 a3 d3 e3 a4 d4 e4 a5 d5 e5 a6 d6 e6 a7 d7 e7
                go_wp2_with fail
                exact bodyPost_ret (v := .tuple #[.agg #[.int .i64 0, .int .i64 0, .int .i64 0, .int .i64 0, .int .i64 0, .int .i64 0, .int .i64 0, .int .i64 0], .int .i64 41]) (by simp only [results, Try.results38]; simp [go_sem, e0, e1, e2, e3, e4, e5, e6, e7]) rfl (HPO.out _ _ _ HX.out rfl HSB.out)
end Go.Proofs.Ytfkcpcdndleboaa
