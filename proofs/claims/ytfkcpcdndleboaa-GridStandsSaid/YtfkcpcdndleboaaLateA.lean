/- PLAIN LAW: the rectangle around boxes. -/
import Derived.Test.YtfkcpcdndleboaaCrossW
import Derived.Test.YtfkcpcdndleboaaBoxesW
import Derived.Test.YtfkcpcdndleboaaGenA
namespace Go.Proofs.Ytfkcpcdndleboaa
open Go.RowKit
structure Ext where
  x : Fr
  y : Fr
  r : Fr
  l : Fr
def exS (e : Ext) (b : Bxv) : Ext := ⟨minF e.x b.x, minF e.y b.y, maxF e.r b.xe, maxF e.l b.ye⟩
def ex0 (b : Bxv) : Ext := ⟨b.x, b.y, b.xe, b.ye⟩
/-- The least and the greatest of the first boxes. -/
def exF (L : List Bxv) : Nat → Ext
  | 0 => ex0 (L.getD 0 bx0)
  | j + 1 => exS (exF L j) (L.getD j bx0)
theorem minF_self (a : Fr) : minF a a = a := by unfold minF; split <;> rfl
theorem maxF_self (a : Fr) : maxF a a = a := by unfold maxF; split <;> rfl
theorem exF_1 (L : List Bxv) : exF L 1 = ex0 (L.getD 0 bx0) := by
  show exS (ex0 (L.getD 0 bx0)) (L.getD 0 bx0) = _
  unfold exS ex0
  rw [minF_self, minF_self, maxF_self, maxF_self]
structure ExOk (e : Ext) : Prop where
  x : e.x.ok
  y : e.y.ok
  r : e.r.ok
  l : e.l.ok
theorem ex0_ok {b : Bxv} (h : b.placed) : ExOk (ex0 b) := ⟨h.x, h.y, h.xe, h.ye⟩
theorem exS_ok {e : Ext} {b : Bxv} (he : ExOk e) (h : b.placed) : ExOk (exS e b) := by
  refine ⟨?_, ?_, ?_, ?_⟩
  · show (minF e.x b.x).ok; unfold minF; split; exact h.x; exact he.x
  · show (minF e.y b.y).ok; unfold minF; split; exact h.y; exact he.y
  · show (maxF e.r b.xe).ok; unfold maxF; split; exact h.xe; exact he.r
  · show (maxF e.l b.ye).ok; unfold maxF; split; exact h.ye; exact he.l
theorem exF_ok {L : List Bxv} (h : ∀ b ∈ L, b.placed) (h0 : 0 < L.length) : ∀ j, j ≤ L.length → ExOk (exF L j)
  | 0, _ => by
    have e : L.getD 0 bx0 = L[0] := by rw [List.getD_eq_getElem?_getD, List.getElem?_eq_getElem h0]; rfl
    show ExOk (ex0 (L.getD 0 bx0))
    rw [e]
    exact ex0_ok (h _ (List.getElem_mem h0))
  | j + 1, hj => by
    have e : L.getD j bx0 = L[j] := by rw [List.getD_eq_getElem?_getD, List.getElem?_eq_getElem (by omega)]; rfl
    show ExOk (exS (exF L j) (L.getD j bx0))
    rw [e]
    exact exS_ok (exF_ok h h0 j (by omega)) (h _ (List.getElem_mem (by omega)))
theorem ok_prd {a b : Fr} (h : a.ok) (k : b.ok) : PrdOk a b := h.num.prd k.num (by decide) (by decide) (by decide)
theorem ok_abs {a : Fr} (h : a.ok) : a.n.natAbs ≤ 1152921504606846976 := by have := h.num.n1; omega
def z0 : Fr := ⟨0, 0⟩
/-- What Extent answers: four fractions and an error. -/
noncomputable def extV (L : List Bxv) : Ext × Int :=
  if chB L ≠ 0 then (⟨z0, z0, z0, z0⟩, chB L) else if L.length = 0 then (⟨z0, z0, z0, z0⟩, 3) else
    @ite _ (((exF L L.length).r.sub (exF L L.length).x).ok ∧ ((exF L L.length).l.sub (exF L L.length).y).ok) (Classical.propDecidable _) (⟨(exF L L.length).x, (exF L L.length).y, (exF L L.length).r.sub (exF L L.length).x, (exF L L.length).l.sub (exF L L.length).y⟩, 0) (⟨z0, z0, z0, z0⟩, 41)
/-- Four stores. -/
def st4 (W : World) (a b c d : Nat) (x y z u : Fr) : World :=
  (((((((W.setCell ⟨a, 0, none⟩ (.int .i64 x.n)).setCell ⟨a, 1, none⟩ (.int .i64 x.d)).setCell ⟨b, 0, none⟩ (.int .i64 y.n)).setCell ⟨b, 1, none⟩ (.int .i64 y.d)).setCell ⟨c, 0, none⟩ (.int .i64 z.n)).setCell ⟨c, 1, none⟩ (.int .i64 z.d)).setCell ⟨d, 0, none⟩ (.int .i64 u.n)).setCell ⟨d, 1, none⟩ (.int .i64 u.d)
structure Fr4 (W : World) (a b c d : Nat) (x y z u : Fr) : Prop where
  a : FrB W a x
  b : FrB W b y
  c : FrB W c z
  d : FrB W d u
theorem Fr4.below {W W' : World} {a b c d : Nat} {x y z u : Fr} (h : Fr4 W a b c d x y z u) (hb : Below W.heap.size W W') : Fr4 W' a b c d x y z u := ⟨h.a.below hb, h.b.below hb, h.c.below hb, h.d.below hb⟩
theorem Fr4.set {W : World} {a b c d : Nat} {x y z u x' y' z' u' : Fr} (h : Fr4 W a b c d x y z u) (ab : a ≠ b) (ac : a ≠ c) (ad : a ≠ d) (bc : b ≠ c) (bd : b ≠ d) (cd : c ≠ d) : Fr4 (st4 W a b c d x' y' z' u') a b c d x' y' z' u' := by
  unfold st4
  refine ⟨?_, ?_, ?_, ?_⟩
  · exact ((((((h.a.set (g := x')).far (Ne.symm ab)).far (Ne.symm ab)).far (Ne.symm ac)).far (Ne.symm ac)).far (Ne.symm ad)).far (Ne.symm ad)
  · exact (((((h.b.far ab).far ab).set (g := y')).far (Ne.symm bc)).far (Ne.symm bc) |>.far (Ne.symm bd)).far (Ne.symm bd)
  · exact ((((((h.c.far ac).far ac).far bc).far bc).set (g := z')).far (Ne.symm cd)).far (Ne.symm cd)
  · exact (((((h.d.far ad).far ad).far bd).far bd).far cd |>.far cd).set (g := u')
theorem FrB.st4 {W : World} {k a b c d : Nat} {f x y z u : Fr} (h : FrB W k f) (h1 : a ≠ k) (h2 : b ≠ k) (h3 : c ≠ k) (h4 : d ≠ k) : FrB (st4 W a b c d x y z u) k f := by
  unfold Go.Proofs.Ytfkcpcdndleboaa.st4
  exact (((((((h.far h1).far h1).far h2).far h2).far h3).far h3).far h4).far h4
theorem Below.st4 {B : Nat} {w W : World} {a b c d : Nat} {x y z u : Fr} (h : Below B w W) (h1 : B ≤ a) (h2 : B ≤ b) (h3 : B ≤ c) (h4 : B ≤ d) : Below B w (Go.Proofs.Ytfkcpcdndleboaa.st4 W a b c d x y z u) := by
  unfold Go.Proofs.Ytfkcpcdndleboaa.st4
  exact (((((((h.setCell h1 _).setCell h1 _).setCell h2 _).setCell h2 _).setCell h3 _).setCell h3 _).setCell h4 _).setCell h4 _
end Go.Proofs.Ytfkcpcdndleboaa

/- UTIL: a region that draws its order: loads that may come late, between stores that do not touch what they read. -/
namespace Go.Proofs.Ytfkcpcdndleboaa
open Go.RowKit
section
variable {P : Program} {ops : Array Oper} {md : Region.Mode} {ws : Nat → World}
/-- An operation yields this value and leaves the world as it is, behind any number of stores. -/
def PureC (P : Program) (ws : Nat → World) (o : Oper) (v : Value) (a : Act) : Prop := o.guard = none ∧ ∀ k, (execOp a.eval o).run P (ws k) = .ok (.value v) (ws k)
/-- The next store. -/
def StoC (P : Program) (ws : Nat → World) (o : Oper) (a : Act) (k : Nat) : Prop := o.guard = none ∧ o.dst = none ∧ (execOp a.eval o).run P (ws k) = .ok .skip (ws (k + 1))
def ZOp (P : Program) (ops : Array Oper) (ws : Nat → World) (i : Nat) (K : Act → Nat → Prop) (a : Act) (k : Nat) : Prop :=
  ∃ o, ops[i]? = some o ∧ ((∃ v, PureC P ws o v a ∧ K (a.put o.dst v) k) ∨ (StoC P ws o a k ∧ K a (k + 1)))
theorem ZOp.wp {i : Nat} {K : Act → Nat → Prop} {a : Act} {k : Nat} {Q : Exit → Act → World → Prop} (hx : ZOp P ops ws i K a k) {K' : Act → World → Prop} (h : ∀ a k, K a k → K' a (ws k)) : wpOp P ops Q i K' a (ws k) := by
  obtain ⟨o, ho, hx⟩ := hx
  have hg : o.guard = none := by
    rcases hx with ⟨v, h1, _⟩ | ⟨h1, _⟩
    · exact h1.1
    · exact h1.1
  unfold wpOp
  have hwt : Region.wanted o (yielded ops a.tmps) = true := by simp [Region.wanted, hg]
  simp only [ho, hwt, if_true]
  left
  unfold Oper.wp
  rcases hx with ⟨v, h1, h2⟩ | ⟨h1, h2⟩
  · rw [h1.2 k]
    exact h _ _ h2
  · rw [h1.2.2]
    show K' (a.put o.dst undef) (ws (k + 1))
    rw [h1.2.1]
    exact h _ _ h2
def HZ (P : Program) (md : Region.Mode) (ops : Array Oper) (ws : Nat → World) (L : Array Bool → Act → Nat → Prop) : Nat → Array Bool → Act → Nat → Prop
  | 0, listed, a, k => L listed a k
  | f + 1, listed, a, k => Region.ready md ops listed ≠ [] ∧ ∀ i ∈ Region.ready md ops listed, ZOp P ops ws i (fun a' k' => HZ P md ops ws L f (listed.setIfInBounds i true) a' k') a k
theorem HZ.any {L : Array Bool → Act → Nat → Prop} {Q' : Exit → Act → World → Prop} (hL : ∀ listed a k, L listed a k → Region.ready md ops listed = [] ∧ Q' .normal a (ws k)) :
    ∀ (f : Nat) (listed : Array Bool) (a : Act) (k : Nat), HZ P md ops ws L f listed a k → wpAny P md ops Q' f listed a (ws k)
  | 0, _, _, _, h => hL _ _ _ h
  | f + 1, _, _, _, h => ⟨fun h0 => absurd h0 h.1, fun i hi => (h.2 i hi).wp fun a' k' h' => HZ.any hL f _ a' k' h'⟩
theorem PureC.of_same {o : Oper} {v : Value} {a a' : Act} (hy : PureC P ws o v a) (he : execOp a'.eval o = execOp a.eval o) : PureC P ws o v a' := ⟨hy.1, fun k => by rw [he]; exact hy.2 k⟩
section
variable {L : Array Bool → Act → Nat → Prop} (hsel : ∀ (j : Nat) (o : Oper) cs b, ops[j]? = some o → o.op ≠ .select cs b) (hdone : ∀ listed a k, L listed a k → Region.ready md ops listed = [])
include hsel hdone
theorem HZ.first {i : Nat} {oi : Oper} {v : Value} (hi : ops[i]? = some oi) : ∀ (f : Nat) (listed : Array Bool) (a : Act) (k : Nat), HeadInv md ops ops.size listed →
      (∀ j oj, ops[j]? = some oj → j ≠ i → listed.getD j true = false → (∀ e ∈ oj.after, Region.binds md e = true → e.on ≠ i) → oi.apart ops oj = true) →
      i ∈ Region.ready md ops listed → PureC P ws oi v a → HZ P md ops ws L f (listed.setIfInBounds i true) (a.put oi.dst v) k → HZ P md ops ws L (f + 1) listed a k := by
  intro f
  have ne : ∀ (listed : Array Bool), i ∈ Region.ready md ops listed → Region.ready md ops listed ≠ [] := fun listed hr h => by rw [h] at hr; cases hr
  induction f with
  | zero =>
    intro listed a k inv _ hr hy H
    refine ⟨ne _ hr, fun j hj => ?_⟩
    by_cases hji : j = i
    · subst hji; exact ⟨oi, hi, .inl ⟨v, hy, H⟩⟩
    · have h1 := ready_mono hj hji
      rw [hdone _ _ _ H] at h1
      cases h1
  | succ f ih =>
    intro listed a k inv hfree hr hy H
    refine ⟨ne _ hr, fun j hj => ?_⟩
    by_cases hji : j = i
    · subst hji; exact ⟨oi, hi, .inl ⟨v, hy, H⟩⟩
    · obtain ⟨oj, hoj, hx⟩ := H.2 j (ready_mono hj hji)
      obtain ⟨hjun, oj', hoj', hall⟩ := mem_ready.1 hj
      rw [hoj] at hoj'
      injection hoj' with hoj'
      subst hoj'
      have hjn : j < ops.size := (Array.getElem?_eq_some_iff.1 hoj).1
      have hun := getD_both (mem_ready.1 hr).1
      have hnot : ∀ e ∈ oj.after, Region.binds md e = true → e.on ≠ i := fun e he hb heq => by
        have h3 := hall e he hb
        rw [heq, hun] at h3
        cases h3
      obtain ⟨h1, h2, h3⟩ := Oper.apart_spec (hfree j oj hoj hji hjun hnot)
      have hsi : ∀ cs b, oi.op ≠ .select cs b := fun cs b => hsel i oi cs b hi
      have hsj : ∀ cs b, oj.op ≠ .select cs b := fun cs b => hsel j oj cs b hoj
      have nxt : ∀ (a' : Act) (k' : Nat), PureC P ws oi v a' → HZ P md ops ws L f ((listed.setIfInBounds i true).setIfInBounds j true) (a'.put oi.dst v) k' → HZ P md ops ws L (f + 1) (listed.setIfInBounds j true) a' k' := fun a' k' hp h => by
        refine ih (listed.setIfInBounds j true) a' k' (inv.set hj hjn) (fun x ok hk hki hku hno => ?_) (ready_mono hr (Ne.symm hji)) hp ?_
        · have hku2 : listed.getD x true = false := by
            by_cases hjk : j = x
            · subst hjk; exact hjun
            · rw [getD_set_ne true hjk] at hku; exact hku
          exact hfree x ok hk hki hku2 hno
        · rw [Array.setIfInBounds_comm _ _ hji]
          exact h
      refine ⟨oj, hoj, ?_⟩
      rcases hx with ⟨u, hu, hK⟩ | ⟨hS, hK⟩
      · refine .inl ⟨u, hu.of_same (execOp_put oj hsj a oi.dst v h1).symm, nxt _ _ (hy.of_same (execOp_put oi hsi a oj.dst u h3)) ?_⟩
        rw [← Act.put_comm a v u h2]
        exact hK
      · refine .inr ⟨⟨hS.1, hS.2.1, ?_⟩, nxt _ _ hy hK⟩
        rw [← execOp_put oj hsj a oi.dst v h1]
        exact hS.2.2
end
/-- The walk in the text's order: first what is only read, then the rest one by one. -/
def wpPure (P : Program) (ws : Nat → World) (Q : Act → Prop) : List Oper → Act → Prop
  | [], a => Q a
  | o :: l, a => ∃ v, PureC P ws o v a ∧ wpPure P ws Q l (a.put o.dst v)
def wpSto (P : Program) (ws : Nat → World) (Q : Act → Nat → Prop) : List Oper → Act → Nat → Prop
  | [], a, k => Q a k
  | o :: l, a, k => (∃ v, PureC P ws o v a ∧ wpSto P ws Q l (a.put o.dst v) k) ∨ (StoC P ws o a k ∧ wpSto P ws Q l a (k + 1))
theorem HZ.tail {Q : Act → Nat → Prop} : ∀ (ts : List Nat) (l : List Oper) (listed : Array Bool) (a : Act) (k : Nat), ts.map (fun i => ops[i]?) = l.map some → tailB md ops ts listed = true → wpSto P ws Q l a k →
    HZ P md ops ws (fun listed a k => Region.ready md ops listed = [] ∧ Q a k) ts.length listed a k
  | [], l, listed, a, k, hl, hB, h => by
    cases l with
    | nil => exact ⟨by simpa [tailB] using hB, h⟩
    | cons o l => simp at hl
  | i :: ts, l, listed, a, k, hl, hB, h => by
    cases l with
    | nil => simp at hl
    | cons o l =>
      simp only [List.map_cons, List.cons.injEq] at hl
      obtain ⟨ho, hl⟩ := hl
      simp only [tailB, Bool.and_eq_true, decide_eq_true_eq] at hB
      obtain ⟨hr, hB⟩ := hB
      refine ⟨by rw [hr]; simp, fun j hj => ?_⟩
      rw [hr] at hj
      obtain rfl : j = i := by simpa using hj
      refine ⟨o, ho, ?_⟩
      rcases h with ⟨v, h1, h2⟩ | ⟨h1, h2⟩
      · exact .inl ⟨v, h1, HZ.tail ts l _ _ _ hl hB h2⟩
      · exact .inr ⟨h1, HZ.tail ts l _ _ _ hl hB h2⟩
theorem HZ.lex {Q : Act → Nat → Prop} (hsel : Region.noSelect ops = true) {ts : List Nat} {lt : List Oper} (ht : ts.map (fun i => ops[i]?) = lt.map some) :
    ∀ (hs : List Nat) (l : List Oper) (listed : Array Bool) (a : Act), hs.map (fun i => ops[i]?) = l.map some → HeadInv md ops ops.size listed → headB md ops hs listed = true → tailB md ops ts (listAll hs listed) = true → wpPure P ws (fun a' => wpSto P ws Q lt a' 0) l a →
      HZ P md ops ws (fun listed a k => Region.ready md ops listed = [] ∧ Q a k) (hs.length + ts.length) listed a 0
  | [], l, listed, a, hl, inv, _, hT, h => by
    cases l with
    | nil =>
      rw [List.length_nil, Nat.zero_add]
      exact HZ.tail ts lt listed a 0 ht hT h
    | cons o l => simp at hl
  | i :: hs, l, listed, a, hl, inv, hB, hT, h => by
    cases l with
    | nil => simp at hl
    | cons o l =>
      simp only [List.map_cons, List.cons.injEq] at hl
      obtain ⟨ho, hl⟩ := hl
      simp only [headB, Bool.and_eq_true] at hB
      obtain ⟨⟨hr, hf⟩, hB⟩ := hB
      obtain ⟨v, hy, h⟩ := h
      have hr' : i ∈ Region.ready md ops listed := by simpa using hr
      have hlt : i < ops.size := (Array.getElem?_eq_some_iff.1 ho).1
      have e : (i :: hs).length + ts.length = (hs.length + ts.length) + 1 := by simp; omega
      rw [e]
      exact HZ.first (Region.noSelect_spec hsel) (fun _ _ _ h => h.1) ho _ listed a 0 inv (Region.free_spec ho hf) hr' hy
        (HZ.lex hsel ht hs l _ _ hl (inv.set hr' hlt) hB hT h)
end
def lateB (l : List Oper) (hs ts : List Nat) : Bool :=
  Region.noSelect l.toArray && headB .any l.toArray hs (Array.replicate l.toArray.size false) && tailB .any l.toArray ts (listAll hs (Array.replicate l.toArray.size false)) &&
  ((hs ++ ts).all fun i => decide (i < l.length)) && decide (hs.length + ts.length = l.length)
/-- THE LAW of a region whose loads may come late. -/
theorem region_late {P : Program} {l : List Oper} {id : Nat} {w : World} {Q : Exit → Act → World → Prop} {a : Act} (hs ts : List Nat) (ws : Nat → World) (hm : P.follows .mixedOrders = true) (hB : lateB l hs ts = true) (hw : ws 0 = w.drew)
    (h : wpPure P ws (fun a' => wpSto P ws (fun a k => Q .normal a (ws k)) (ts.map fun i => l.getD i default) a' 0) (hs.map fun i => l.getD i default) a) : (Code.region id l.toArray true).wp P Q a w := by
  simp only [lateB, Bool.and_eq_true, decide_eq_true_eq] at hB
  obtain ⟨⟨⟨⟨hsel, hhead⟩, htail⟩, hlt⟩, hlen⟩ := hB
  have hlt1 : ∀ i ∈ hs ++ ts, i < l.length := fun i hi => by simpa using List.all_eq_true.1 hlt i hi
  have H := HZ.lex (md := .any) (ws := ws) (P := P) (Q := fun a k => Q .normal a (ws k)) hsel (map_getD ts fun i hi => hlt1 i (by simp [hi])) hs _ _ a (map_getD hs fun i hi => hlt1 i (by simp [hi])) headInv0 hhead htail h
  refine wp_region_any hm ?_
  have hz := HZ.any (Q' := Q) (fun _ _ _ h => h) (hs.length + ts.length) _ a 0 H
  have e : hs.length + ts.length = l.toArray.size := by
    have : l.toArray.size = l.length := by simp
    omega
  rw [e, hw] at hz
  exact hz
end Go.Proofs.Ytfkcpcdndleboaa

/- UTIL: loads and stores of fractions in a region whose loads may come late. -/
namespace Go.Proofs.Ytfkcpcdndleboaa
open Go.RowKit
section
variable {ws : Nat → World} {Q : Act → Prop} {Q2 : Act → Nat → Prop} {o : Oper} {l : List Oper} {a : Act}
theorem pure_move (hg : o.guard = none) (x : Operand) (ho : o.op = .move x) (h : wpPure Try.prog ws Q l (a.put o.dst (a.eval x))) : wpPure Try.prog ws Q (o :: l) a := by
  refine ⟨_, ⟨hg, fun k => ?_⟩, h⟩
  unfold execOp
  simp [ho, go_sem]
theorem pure_load (hg : o.guard = none) (x : Operand) (ho : o.op = .load 52 x) (b of : Nat) (f : Fr) (hx : a.eval x = .pointer (some ⟨b, of, none⟩)) (hc : ∀ k, (ws k).cell? ⟨b, of, none⟩ = some (.int .i64 f.n) ∧ (ws k).cell? ⟨b, of + 1, none⟩ = some (.int .i64 f.d))
    (h : wpPure Try.prog ws Q l (a.put o.dst (.agg #[.int .i64 f.n, .int .i64 f.d]))) : wpPure Try.prog ws Q (o :: l) a := by
  refine ⟨_, ⟨hg, fun k => ?_⟩, h⟩
  unfold execOp
  simp only [ho, hx]
  simp [go_sem, (hc k).1, (hc k).2]
theorem pure_fld7 (hg : o.guard = none) (x : Operand) (ho : o.op = .fieldAddr 54 x 7) (b : Nat) (hx : a.eval x = .pointer (some ⟨b, 0, none⟩)) (h : wpPure Try.prog ws Q l (a.put o.dst (.pointer (some ⟨b, 7, none⟩)))) : wpPure Try.prog ws Q (o :: l) a := by
  refine ⟨_, ⟨hg, fun k => ?_⟩, h⟩
  unfold execOp
  simp only [ho, hx]
  simp [go_sem]
theorem pure_fld8 (hg : o.guard = none) (x : Operand) (ho : o.op = .fieldAddr 54 x 8) (b : Nat) (hx : a.eval x = .pointer (some ⟨b, 0, none⟩)) (h : wpPure Try.prog ws Q l (a.put o.dst (.pointer (some ⟨b, 9, none⟩)))) : wpPure Try.prog ws Q (o :: l) a := by
  refine ⟨_, ⟨hg, fun k => ?_⟩, h⟩
  unfold execOp
  simp only [ho, hx]
  simp [go_sem]
theorem sto_fr {k : Nat} (hg : o.guard = none) (hd : o.dst = none) (x y : Operand) (ho : o.op = .store 52 x y) (b : Nat) (f : Fr) (hx : a.eval x = .pointer (some ⟨b, 0, none⟩)) (hy : a.eval y = .agg #[.int .i64 f.n, .int .i64 f.d]) {g : Fr} (hb : FrB (ws k) b g)
    (hw : ws (k + 1) = ((ws k).setCell ⟨b, 0, none⟩ (.int .i64 f.n)).setCell ⟨b, 1, none⟩ (.int .i64 f.d)) (h : wpSto Try.prog ws Q2 l a (k + 1)) : wpSto Try.prog ws Q2 (o :: l) a k := by
  refine .inr ⟨⟨hg, hd, ?_⟩, h⟩
  obtain ⟨⟨c1, c2⟩, ⟨c3, c4⟩, _⟩ := hb.cells
  unfold execOp
  simp only [ho, hx, hy]
  simp [go_sem, c1, c2, c3, c4, hw]
theorem sto_assign {k : Nat} (hg : o.guard = none) (x : Operand) (ho : o.op = .assign x) (h : wpSto Try.prog ws Q2 l (a.put o.dst (a.eval x)) k) : wpSto Try.prog ws Q2 (o :: l) a k := by
  refine .inl ⟨_, ⟨hg, fun j => ?_⟩, h⟩
  unfold execOp
  simp [ho, go_sem]
end
theorem pure_any {ws : Nat → World} {Q : Act → Prop} {o : Oper} {l : List Oper} {a : Act} (hg : o.guard = none) (v : Value) (hv : ∀ w, (execOp a.eval o).run Try.prog w = .ok (.value v) w) (h : wpPure Try.prog ws Q l (a.put o.dst v)) : wpPure Try.prog ws Q (o :: l) a := ⟨v, ⟨hg, fun _ => hv _⟩, h⟩
/-- Four stores, one by one. -/
def wsq (W : World) (a b c d : Nat) (x y z u : Fr) : Nat → World
  | 0 => W
  | 1 => (W.setCell ⟨a, 0, none⟩ (.int .i64 x.n)).setCell ⟨a, 1, none⟩ (.int .i64 x.d)
  | 2 => ((((W.setCell ⟨a, 0, none⟩ (.int .i64 x.n)).setCell ⟨a, 1, none⟩ (.int .i64 x.d))).setCell ⟨b, 0, none⟩ (.int .i64 y.n)).setCell ⟨b, 1, none⟩ (.int .i64 y.d)
  | 3 => ((((((W.setCell ⟨a, 0, none⟩ (.int .i64 x.n)).setCell ⟨a, 1, none⟩ (.int .i64 x.d))).setCell ⟨b, 0, none⟩ (.int .i64 y.n)).setCell ⟨b, 1, none⟩ (.int .i64 y.d)).setCell ⟨c, 0, none⟩ (.int .i64 z.n)).setCell ⟨c, 1, none⟩ (.int .i64 z.d)
  | _ + 4 => st4 W a b c d x y z u
theorem wsq_far {W : World} {a b c d : Nat} {x y z u : Fr} {k0 : Nat} {f : Fr} (h : FrB W k0 f) (h1 : a ≠ k0) (h2 : b ≠ k0) (h3 : c ≠ k0) (h4 : d ≠ k0) : ∀ k, FrB (wsq W a b c d x y z u k) k0 f
  | 0 => h
  | 1 => (h.far h1).far h1
  | 2 => (((h.far h1).far h1).far h2).far h2
  | 3 => (((((h.far h1).far h1).far h2).far h2).far h3).far h3
  | _ + 4 => FrB.st4 h h1 h2 h3 h4
theorem wsq_keep {W : World} {a b c d : Nat} {x y z u : Fr} (h : Fr4 W a b c d x y z u) (ab : a ≠ b) (ac : a ≠ c) (ad : a ≠ d) (bc : b ≠ c) (bd : b ≠ d) (cd : c ≠ d) : ∀ k, Fr4 (wsq W a b c d x y z u k) a b c d x y z u
  | 0 => h
  | 1 => ⟨h.a.set, (h.b.far ab).far ab, (h.c.far ac).far ac, (h.d.far ad).far ad⟩
  | 2 => ⟨((h.a.set (g := x)).far (Ne.symm ab)).far (Ne.symm ab), ((h.b.far ab).far ab).set, (((h.c.far ac).far ac).far bc).far bc, (((h.d.far ad).far ad).far bd).far bd⟩
  | 3 => ⟨((((h.a.set (g := x)).far (Ne.symm ab)).far (Ne.symm ab)).far (Ne.symm ac)).far (Ne.symm ac), ((((h.b.far ab).far ab).set (g := y)).far (Ne.symm bc)).far (Ne.symm bc), ((((h.c.far ac).far ac).far bc).far bc).set, (((((h.d.far ad).far ad).far bd).far bd).far cd).far cd⟩
  | _ + 4 => h.set ab ac ad bc bd cd
theorem wsq_blk {W : World} {a b c d q : Nat} {x y z u : Fr} (h1 : a ≠ q) (h2 : b ≠ q) (h3 : c ≠ q) (h4 : d ≠ q) : ∀ k, (wsq W a b c d x y z u k).heap[q]? = W.heap[q]?
  | 0 => rfl
  | 1 => by unfold wsq; rw [far_blk h1, far_blk h1]
  | 2 => by unfold wsq; rw [far_blk h2, far_blk h2, far_blk h1, far_blk h1]
  | 3 => by unfold wsq; rw [far_blk h3, far_blk h3, far_blk h2, far_blk h2, far_blk h1, far_blk h1]
  | _ + 4 => by show (st4 W a b c d x y z u).heap[q]? = _; unfold st4; rw [far_blk h4, far_blk h4, far_blk h3, far_blk h3, far_blk h2, far_blk h2, far_blk h1, far_blk h1]
/-- THE REGION: four loads, four stores. -/
theorem region_ld4 {l : List Oper} {id : Nat} {w : World} {Q : Exit → Act → World → Prop} {a : Act} (hs ts : List Nat) (p q r s : Nat) {f1 f2 f3 f4 x y z u : Fr} (hB : lateB l hs ts = true) (_hf : Fr4 w p q r s f1 f2 f3 f4)
    (_n1 : p ≠ q) (_n2 : p ≠ r) (_n3 : p ≠ s) (_n4 : q ≠ r) (_n5 : q ≠ s) (_n6 : r ≠ s)
    (h : wpPure Try.prog (wsq w.drew p q r s x y z u) (fun a' => wpSto Try.prog (wsq w.drew p q r s x y z u) (fun a k => Q .normal a (wsq w.drew p q r s x y z u k)) (ts.map fun i => l.getD i default) a' 0) (hs.map fun i => l.getD i default) a) : (Code.region id l.toArray true).wp Try.prog Q a w :=
  region_late hs ts (wsq w.drew p q r s x y z u) (by kernel_rfl) hB rfl h
theorem wsq_1 {w : World} {p q r s : Nat} {f x y z u : Fr} (n1 : p ≠ q) (h : FrB w q f) : FrB (wsq w p q r s x y z u 1) q f := (h.far n1).far n1
theorem wsq_2 {w : World} {p q r s : Nat} {f x y z u : Fr} (n1 : p ≠ r) (n2 : q ≠ r) (h : FrB w r f) : FrB (wsq w p q r s x y z u 2) r f := (((h.far n1).far n1).far n2).far n2
theorem wsq_3 {w : World} {p q r s : Nat} {f x y z u : Fr} (n1 : p ≠ s) (n2 : q ≠ s) (n3 : r ≠ s) (h : FrB w s f) : FrB (wsq w p q r s x y z u 3) s f := (((((h.far n1).far n1).far n2).far n2).far n3).far n3
theorem drew_frb {w : World} {b : Nat} {f : Fr} (h : FrB w b f) : FrB w.drew b f := h
end Go.Proofs.Ytfkcpcdndleboaa

/- UTIL: a region that draws its order: reads that may come late, between two fresh boxes that are made and written. -/
namespace Go.Proofs.Ytfkcpcdndleboaa
open Go.RowKit
section
variable {P : Program} {ops : Array Oper} {md : Region.Mode} {S : Type} {I : S → World → Prop} {root : World}
/-- A step that changes the state. -/
def NStep (P : Program) (I : S → World → Prop) (o : Oper) (a : Act) (s : S) (K : Value → S → Prop) : Prop :=
  o.guard = none ∧ ∀ w, I s w → ∃ (s' : S) (v : Value) (w' : World), ((execOp a.eval o).run P w = .ok (.value v) w' ∨ (o.dst = none ∧ (execOp a.eval o).run P w = .ok .skip w')) ∧ I s' w' ∧ K v s'
def AOp (P : Program) (ops : Array Oper) (I : S → World → Prop) (root : World) (i : Nat) (K : Act → S → Prop) (a : Act) (s : S) : Prop :=
  ∃ o, ops[i]? = some o ∧ ((∃ v, YUp P ops o v a root ∧ K (a.put o.dst v) s) ∨ NStep P I o a s fun v s' => K (a.put o.dst v) s')
theorem AOp.wp {i : Nat} {K : Act → S → Prop} {a : Act} {s : S} {w : World} {Q : Exit → Act → World → Prop} (hup : ∀ s w, I s w → Up root w) (hst : ∀ s w w', I s w → Up w w' → I s w') (hx : AOp P ops I root i K a s) (hw : I s w) {K' : Act → World → Prop} (h : ∀ a s w, I s w → K a s → K' a w) : wpOp P ops Q i K' a w := by
  obtain ⟨o, ho, hx⟩ := hx
  rcases hx with ⟨v, h1, h2⟩ | ⟨hg, h1⟩
  · exact h1.wp ho (hup s w hw) fun w' hw' => h _ _ _ (hst s w w' hw hw') h2
  · unfold wpOp
    have hwt : Region.wanted o (yielded ops a.tmps) = true := by simp [Region.wanted, hg]
    simp only [ho, hwt, if_true]
    left
    unfold Oper.wp
    obtain ⟨s', v, w', h2, h3, h4⟩ := h1 w hw
    rcases h2 with h2 | ⟨hd, h2⟩
    · rw [h2]; exact h _ _ _ h3 h4
    · rw [h2]
      show K' (a.put o.dst undef) w'
      rw [hd] at h4 ⊢
      exact h _ _ _ h3 h4
def HA (P : Program) (md : Region.Mode) (ops : Array Oper) (I : S → World → Prop) (root : World) (L : Array Bool → Act → S → Prop) : Nat → Array Bool → Act → S → Prop
  | 0, listed, a, s => L listed a s
  | f + 1, listed, a, s => Region.ready md ops listed ≠ [] ∧ ∀ i ∈ Region.ready md ops listed, AOp P ops I root i (fun a' s' => HA P md ops I root L f (listed.setIfInBounds i true) a' s') a s
theorem HA.any {L : Array Bool → Act → S → Prop} {Q' : Exit → Act → World → Prop} (hup : ∀ s w, I s w → Up root w) (hst : ∀ s w w', I s w → Up w w' → I s w') (hL : ∀ listed a s w, I s w → L listed a s → Region.ready md ops listed = [] ∧ Q' .normal a w) :
    ∀ (f : Nat) (listed : Array Bool) (a : Act) (s : S) (w : World), I s w → HA P md ops I root L f listed a s → wpAny P md ops Q' f listed a w
  | 0, _, _, _, _, hw, h => hL _ _ _ _ hw h
  | f + 1, _, _, _, _, hw, h => ⟨fun h0 => absurd h0 h.1, fun i hi => (h.2 i hi).wp hup hst hw fun a' s' w' hw' h' => HA.any hup hst hL f _ a' s' w' hw' h'⟩
section
variable {L : Array Bool → Act → S → Prop} (hsel : ∀ (j : Nat) (o : Oper) cs b, ops[j]? = some o → o.op ≠ .select cs b) (hdone : ∀ listed a s, L listed a s → Region.ready md ops listed = [])
include hsel hdone
theorem HA.first {i : Nat} {oi : Oper} {v : Value} (hi : ops[i]? = some oi) : ∀ (f : Nat) (listed : Array Bool) (a : Act) (s : S), HeadInv md ops ops.size listed →
      (∀ j oj, ops[j]? = some oj → j ≠ i → listed.getD j true = false → (∀ e ∈ oj.after, Region.binds md e = true → e.on ≠ i) → oi.apart ops oj = true) →
      i ∈ Region.ready md ops listed → YUp P ops oi v a root → HA P md ops I root L f (listed.setIfInBounds i true) (a.put oi.dst v) s → HA P md ops I root L (f + 1) listed a s := by
  intro f
  have ne : ∀ (listed : Array Bool), i ∈ Region.ready md ops listed → Region.ready md ops listed ≠ [] := fun listed hr h => by rw [h] at hr; cases hr
  induction f with
  | zero =>
    intro listed a s inv _ hr hy H
    refine ⟨ne _ hr, fun j hj => ?_⟩
    by_cases hji : j = i
    · subst hji; exact ⟨oi, hi, .inl ⟨v, hy, H⟩⟩
    · have h1 := ready_mono hj hji
      rw [hdone _ _ _ H] at h1
      cases h1
  | succ f ih =>
    intro listed a s inv hfree hr hy H
    refine ⟨ne _ hr, fun j hj => ?_⟩
    by_cases hji : j = i
    · subst hji; exact ⟨oi, hi, .inl ⟨v, hy, H⟩⟩
    · obtain ⟨oj, hoj, hx⟩ := H.2 j (ready_mono hj hji)
      obtain ⟨hjun, oj', hoj', hall⟩ := mem_ready.1 hj
      rw [hoj] at hoj'
      injection hoj' with hoj'
      subst hoj'
      have hjn : j < ops.size := (Array.getElem?_eq_some_iff.1 hoj).1
      have hun := getD_both (mem_ready.1 hr).1
      have hnot : ∀ e ∈ oj.after, Region.binds md e = true → e.on ≠ i := fun e he hb heq => by
        have h3 := hall e he hb
        rw [heq, hun] at h3
        cases h3
      obtain ⟨h1, h2, h3⟩ := Oper.apart_spec (hfree j oj hoj hji hjun hnot)
      have hsi : ∀ cs b, oi.op ≠ .select cs b := fun cs b => hsel i oi cs b hi
      have hsj : ∀ cs b, oj.op ≠ .select cs b := fun cs b => hsel j oj cs b hoj
      have nxt : ∀ (u : Value) (s' : S), HA P md ops I root L f ((listed.setIfInBounds i true).setIfInBounds j true) ((a.put oi.dst v).put oj.dst u) s' → HA P md ops I root L (f + 1) (listed.setIfInBounds j true) (a.put oj.dst u) s' := fun u s' h => by
        refine ih (listed.setIfInBounds j true) (a.put oj.dst u) s' (inv.set hj hjn) (fun x ok hk hki hku hno => ?_) (ready_mono hr (Ne.symm hji)) (hy.of_same (execOp_put oi hsi a oj.dst u h3) (wanted_put oi a oj.dst u h3)) ?_
        · have hku2 : listed.getD x true = false := by
            by_cases hjk : j = x
            · subst hjk; exact hjun
            · rw [getD_set_ne true hjk] at hku; exact hku
          exact hfree x ok hk hki hku2 hno
        · rw [Array.setIfInBounds_comm _ _ hji, ← Act.put_comm a v u h2]
          exact h
      refine ⟨oj, hoj, ?_⟩
      rcases hx with ⟨u, hu, hK⟩ | ⟨hg, hK⟩
      · exact .inl ⟨u, hu.of_same (execOp_put oj hsj a oi.dst v h1).symm (wanted_put oj a oi.dst v h1).symm, nxt u s hK⟩
      · refine .inr ⟨hg, fun w hw => ?_⟩
        obtain ⟨s', u, w', e1, e2, e3⟩ := hK w hw
        rw [execOp_put oj hsj a oi.dst v h1] at e1
        exact ⟨s', u, w', e1, e2, nxt u s' e3⟩
end
theorem HA.lex {L : Array Bool → Act → S → Prop} (hsel : Region.noSelect ops = true) (hdone : ∀ listed a s, L listed a s → Region.ready md ops listed = []) (g : Nat) {aF : Act} {s : S} :
    ∀ (hs : List Nat) (l : List Oper) (listed : Array Bool) (a : Act), hs.map (fun i => ops[i]?) = l.map some → HeadInv md ops ops.size listed → headB md ops hs listed = true → wpUp P ops root l a aF → HA P md ops I root L g (listAll hs listed) aF s →
      HA P md ops I root L (hs.length + g) listed a s
  | [], l, listed, a, hl, inv, _, h, hb => by
    cases l with
    | nil =>
      rw [List.length_nil, Nat.zero_add]
      have e : a = aF := h
      rw [e]
      exact hb
    | cons o l => simp at hl
  | i :: hs, l, listed, a, hl, inv, hB, h, hb => by
    cases l with
    | nil => simp at hl
    | cons o l =>
      simp only [List.map_cons, List.cons.injEq] at hl
      obtain ⟨ho, hl⟩ := hl
      simp only [headB, Bool.and_eq_true] at hB
      obtain ⟨⟨hr, hf⟩, hB⟩ := hB
      obtain ⟨v, hy, h⟩ := h
      have hr' : i ∈ Region.ready md ops listed := by simpa using hr
      have hlt : i < ops.size := (Array.getElem?_eq_some_iff.1 ho).1
      have e : (i :: hs).length + g = (hs.length + g) + 1 := by simp; omega
      rw [e]
      exact HA.first (Region.noSelect_spec hsel) hdone ho _ listed a s inv (Region.free_spec ho hf) hr' hy
        (HA.lex hsel hdone g hs l _ _ hl (inv.set hr' hlt) hB h hb)
end
/-- What is known of the two boxes: where they lie, whether they are written. -/
structure TwoB where
  p : Option Nat
  q : Option Nat
  p1 : Bool
  q1 : Bool
def bxIs (W : World) (root : World) (o : Option Nat) (b : Bool) (f : Fr) : Prop := ∀ p, o = some p → root.heap.size ≤ p ∧ FrB W p (if b then f else z0)
def TwoI (root : World) (f g : Fr) (s : TwoB) (w : World) : Prop := Up root w ∧ bxIs w root s.p s.p1 f ∧ bxIs w root s.q s.q1 g ∧ (∀ p q, s.p = some p → s.q = some q → p ≠ q)
theorem TwoI.up {root : World} {f g : Fr} {s : TwoB} {w w' : World} (h : TwoI root f g s w) (hb : Up w w') : TwoI root f g s w' :=
  ⟨Up.trans h.1 hb, fun p e => ⟨(h.2.1 p e).1, (h.2.1 p e).2.below hb⟩, fun p e => ⟨(h.2.2.1 p e).1, (h.2.2.1 p e).2.below hb⟩, h.2.2.2⟩
theorem z0_obj : Obj.cells #[.int .i64 0, .int .i64 0] 52 = .cells #[.int .i64 z0.n, .int .i64 z0.d] 52 := rfl
theorem two_p {root : World} {f g : Fr} {q : Option Nat} {q1 : Bool} {w : World} (h : TwoI root f g ⟨none, q, false, q1⟩ w) : TwoI root f g ⟨some w.heap.size, q, false, q1⟩ (w.alloc (.cells #[.int .i64 0, .int .i64 0] 52)) := by
  obtain ⟨h1, h2, h3, h4⟩ := h
  have hb : Up w (w.alloc (.cells #[.int .i64 0, .int .i64 0] 52)) := (Below.refl _ _).alloc (Nat.le_refl _) _
  refine ⟨Up.trans h1 hb, fun p e => ?_, fun p e => ⟨(h3 p e).1, (h3 p e).2.below hb⟩, fun p q' e1 e2 => ?_⟩
  · injection e with e
    subst e
    exact ⟨h1.size, nw_blk rfl⟩
  · injection e1 with e1
    subst e1
    have := lt_of_block (h3 q' e2).2
    omega
theorem two_q {root : World} {f g : Fr} {p : Option Nat} {p1 : Bool} {w : World} (h : TwoI root f g ⟨p, none, p1, false⟩ w) : TwoI root f g ⟨p, some w.heap.size, p1, false⟩ (w.alloc (.cells #[.int .i64 0, .int .i64 0] 52)) := by
  obtain ⟨h1, h2, h3, h4⟩ := h
  have hb : Up w (w.alloc (.cells #[.int .i64 0, .int .i64 0] 52)) := (Below.refl _ _).alloc (Nat.le_refl _) _
  refine ⟨Up.trans h1 hb, fun p e => ⟨(h2 p e).1, (h2 p e).2.below hb⟩, fun p e => ?_, fun p q' e1 e2 => ?_⟩
  · injection e with e
    subst e
    exact ⟨h1.size, nw_blk rfl⟩
  · injection e2 with e2
    subst e2
    have := lt_of_block (h2 p e1).2
    omega
theorem two_wp {root : World} {f g : Fr} {p : Nat} {q : Option Nat} {q1 : Bool} {w : World} (h : TwoI root f g ⟨some p, q, false, q1⟩ w) : TwoI root f g ⟨some p, q, true, q1⟩ ((w.setCell ⟨p, 0, none⟩ (.int .i64 f.n)).setCell ⟨p, 1, none⟩ (.int .i64 f.d)) := by
  obtain ⟨h1, h2, h3, h4⟩ := h
  obtain ⟨k1, k2⟩ := h2 p rfl
  refine ⟨(h1.setCell k1 _).setCell k1 _, fun p' e => ?_, fun q' e => ⟨(h3 q' e).1, ((h3 q' e).2.far (h4 p q' rfl e)).far (h4 p q' rfl e)⟩, h4⟩
  injection e with e
  subst e
  exact ⟨k1, k2.set (g := f)⟩
theorem two_wq {root : World} {f g : Fr} {q : Nat} {p : Option Nat} {p1 : Bool} {w : World} (h : TwoI root f g ⟨p, some q, p1, false⟩ w) : TwoI root f g ⟨p, some q, p1, true⟩ ((w.setCell ⟨q, 0, none⟩ (.int .i64 g.n)).setCell ⟨q, 1, none⟩ (.int .i64 g.d)) := by
  obtain ⟨h1, h2, h3, h4⟩ := h
  obtain ⟨k1, k2⟩ := h3 q rfl
  refine ⟨(h1.setCell k1 _).setCell k1 _, fun p' e => ⟨(h2 p' e).1, ((h2 p' e).2.far (Ne.symm (h4 p' q e rfl))).far (Ne.symm (h4 p' q e rfl))⟩, fun q' e => ?_, h4⟩
  injection e with e
  subst e
  exact ⟨k1, k2.set (g := g)⟩
theorem ev_put {a : Act} {d : Tmp} {v : Value} (h : d < a.tmps.size) : (a.put (some d) v).eval (.tmp d) = v := by
  simp [Act.eval, Act.put, h]
theorem ev_ne {a : Act} {d t : Tmp} {v : Value} (h : t ≠ d) : (a.put (some d) v).eval (.tmp t) = a.eval (.tmp t) := by
  simp [Act.eval, Act.put, Array.getElem?_setIfInBounds_ne (Ne.symm h)]
theorem run_sto {o : Oper} {a : Act} {w : World} (x y : Operand) (ho : o.op = .store 52 x y) {p : Nat} {f g : Fr} (hx : a.eval x = .pointer (some ⟨p, 0, none⟩)) (hy : a.eval y = .agg #[.int .i64 f.n, .int .i64 f.d]) (hb : FrB w p g) :
    (execOp a.eval o).run Try.prog w = .ok .skip ((w.setCell ⟨p, 0, none⟩ (.int .i64 f.n)).setCell ⟨p, 1, none⟩ (.int .i64 f.d)) := by
  obtain ⟨⟨c1, c2⟩, ⟨c3, c4⟩, _⟩ := hb.cells
  unfold execOp
  simp only [ho, hx, hy]
  simp [go_sem, c1, c2, c3, c4]
theorem run_mk {o : Oper} {a : Act} {w : World} (ho : o.op = .alloc 52) : (execOp a.eval o).run Try.prog w = .ok (.value (.pointer (some ⟨w.heap.size, 0, none⟩))) (w.alloc (.cells #[.int .i64 0, .int .i64 0] 52)) := by
  unfold execOp
  simp only [ho]
  simp [go_sem]
def subB (l : List Nat) (m : List Nat) : Bool := !l.isEmpty && l.all fun x => m.contains x
def twoOk (ops : Array Oper) (l0 : Array Bool) (i1 i2 t1 t2 : Nat) : Bool :=
  subB (Region.ready .any ops l0) [i1, i2] && subB (Region.ready .any ops (l0.setIfInBounds i1 true)) [i2, t1] && subB (Region.ready .any ops (l0.setIfInBounds i2 true)) [i1] &&
  subB (Region.ready .any ops ((l0.setIfInBounds i1 true).setIfInBounds i2 true)) [t1] && subB (Region.ready .any ops ((l0.setIfInBounds i2 true).setIfInBounds i1 true)) [t1] && subB (Region.ready .any ops ((l0.setIfInBounds i1 true).setIfInBounds t1 true)) [i2] &&
  subB (Region.ready .any ops (((l0.setIfInBounds i1 true).setIfInBounds i2 true).setIfInBounds t1 true)) [t2] && subB (Region.ready .any ops (((l0.setIfInBounds i2 true).setIfInBounds i1 true).setIfInBounds t1 true)) [t2] && subB (Region.ready .any ops (((l0.setIfInBounds i1 true).setIfInBounds t1 true).setIfInBounds i2 true)) [t2] &&
  (Region.ready .any ops ((((l0.setIfInBounds i1 true).setIfInBounds i2 true).setIfInBounds t1 true).setIfInBounds t2 true)).isEmpty && (Region.ready .any ops ((((l0.setIfInBounds i2 true).setIfInBounds i1 true).setIfInBounds t1 true).setIfInBounds t2 true)).isEmpty && (Region.ready .any ops ((((l0.setIfInBounds i1 true).setIfInBounds t1 true).setIfInBounds i2 true).setIfInBounds t2 true)).isEmpty
theorem subB_spec {l m : List Nat} (h : subB l m = true) : l ≠ [] ∧ ∀ x ∈ l, x ∈ m := by
  unfold subB at h
  simp only [Bool.and_eq_true, Bool.not_eq_true', List.all_eq_true] at h
  refine ⟨fun e => by rw [e] at h; simp at h, fun x hx => by simpa using h.2 x hx⟩
section
variable {ops : Array Oper} {root : World} {aF : Act} {f g : Fr} {i1 i2 t1 t2 : Nat} {d1 d2 y1 y2 : Tmp} {oi1 oi2 ot1 ot2 : Oper}
/-- What the end of the region knows. -/
def TwoL (ops : Array Oper) (aF : Act) (d1 d2 : Tmp) (listed : Array Bool) (a : Act) (s : TwoB) : Prop := Region.ready .any ops listed = [] ∧ ∃ p q, s = ⟨some p, some q, true, true⟩ ∧ a = (aF.put (some d1) (.pointer (some ⟨p, 0, none⟩))).put (some d2) (.pointer (some ⟨q, 0, none⟩))
theorem two_tail (l0 : Array Bool) (hB : twoOk ops l0 i1 i2 t1 t2 = true) (h1 : ops[i1]? = some oi1) (h2 : ops[i2]? = some oi2) (h3 : ops[t1]? = some ot1) (h4 : ops[t2]? = some ot2)
    (k1 : oi1.op = .alloc 52 ∧ oi1.dst = some d1 ∧ oi1.guard = none) (k2 : oi2.op = .alloc 52 ∧ oi2.dst = some d2 ∧ oi2.guard = none)
    (k3 : ot1.op = .store 52 (.tmp d1) (.tmp y1) ∧ ot1.dst = none ∧ ot1.guard = none) (k4 : ot2.op = .store 52 (.tmp d2) (.tmp y2) ∧ ot2.dst = none ∧ ot2.guard = none)
    (n1 : d1 ≠ d2) (n2 : y1 ≠ d1) (n3 : y1 ≠ d2) (n4 : y2 ≠ d1) (n5 : y2 ≠ d2) (s1 : d1 < aF.tmps.size) (s2 : d2 < aF.tmps.size)
    (v1 : aF.eval (.tmp y1) = .agg #[.int .i64 f.n, .int .i64 f.d]) (v2 : aF.eval (.tmp y2) = .agg #[.int .i64 g.n, .int .i64 g.d]) :
    HA Try.prog .any ops (TwoI root f g) root (TwoL ops aF d1 d2) 4 l0 aF ⟨none, none, false, false⟩ := by
  simp only [twoOk, Bool.and_eq_true] at hB
  obtain ⟨⟨⟨⟨⟨⟨⟨⟨⟨⟨⟨c0, c1⟩, c2⟩, c12⟩, c21⟩, c1t⟩, c12t⟩, c21t⟩, c1t2⟩, e1⟩, e2⟩, e3⟩ := hB
  have em : ∀ {l : List Nat}, l.isEmpty = true → l = [] := fun h => by simpa using h
  have sz : ∀ (a : Act) (d : Tmp) (v : Value), (a.put (some d) v).tmps.size = a.tmps.size := fun a d v => put_size
  -- the last store
  have T2 : ∀ (l : Array Bool) (a : Act) (p q : Nat), subB (Region.ready .any ops l) [t2] = true → Region.ready .any ops (l.setIfInBounds t2 true) = [] → a = (aF.put (some d1) (.pointer (some ⟨p, 0, none⟩))).put (some d2) (.pointer (some ⟨q, 0, none⟩)) → HA Try.prog .any ops (TwoI root f g) root (TwoL ops aF d1 d2) 1 l a ⟨some p, some q, true, false⟩ := fun l a p q hb he ha => by
    obtain ⟨b1, b2⟩ := subB_spec hb
    refine ⟨b1, fun j hj => ?_⟩
    obtain rfl : j = t2 := by simpa using b2 j hj
    refine ⟨ot2, h4, .inr ⟨k4.2.2, fun w hw => ⟨_, undef, _, .inr ⟨k4.2.1, run_sto _ _ k4.1 ?_ ?_ (hw.2.2.1 q rfl).2⟩, two_wq hw, ?_⟩⟩⟩
    · rw [ha]; exact ev_put (by rw [sz]; exact s2)
    · rw [ha, ev_ne n5, ev_ne n4]; exact v2
    · rw [k4.2.1]
      exact ⟨he, p, q, rfl, ha⟩
  -- the first store, both boxes made
  have T1 : ∀ (l : Array Bool) (a : Act) (p q : Nat), subB (Region.ready .any ops l) [t1] = true → subB (Region.ready .any ops (l.setIfInBounds t1 true)) [t2] = true → Region.ready .any ops ((l.setIfInBounds t1 true).setIfInBounds t2 true) = [] → a = (aF.put (some d1) (.pointer (some ⟨p, 0, none⟩))).put (some d2) (.pointer (some ⟨q, 0, none⟩)) → HA Try.prog .any ops (TwoI root f g) root (TwoL ops aF d1 d2) 2 l a ⟨some p, some q, false, false⟩ := fun l a p q hb hb2 he ha => by
    obtain ⟨b1, b2⟩ := subB_spec hb
    refine ⟨b1, fun j hj => ?_⟩
    obtain rfl : j = t1 := by simpa using b2 j hj
    refine ⟨ot1, h3, .inr ⟨k3.2.2, fun w hw => ⟨_, undef, _, .inr ⟨k3.2.1, run_sto _ _ k3.1 ?_ ?_ (hw.2.1 p rfl).2⟩, two_wp hw, ?_⟩⟩⟩
    · rw [ha, ev_ne n1]; exact ev_put s1
    · rw [ha, ev_ne n3, ev_ne n2]; exact v1
    · rw [k3.2.1]
      exact T2 _ a p q hb2 he ha
  obtain ⟨b1, b2⟩ := subB_spec c0
  refine ⟨b1, fun j hj => ?_⟩
  have hj2 := b2 j hj
  simp only [List.mem_cons, List.not_mem_nil, or_false] at hj2
  rcases hj2 with rfl | rfl
  · -- the first box first
    refine ⟨oi1, h1, .inr ⟨k1.2.2, fun w hw => ⟨_, _, _, .inl (run_mk k1.1), two_p hw, ?_⟩⟩⟩
    rw [k1.2.1]
    obtain ⟨b3, b4⟩ := subB_spec c1
    refine ⟨b3, fun i hi => ?_⟩
    have hi2 := b4 i hi
    simp only [List.mem_cons, List.not_mem_nil, or_false] at hi2
    rcases hi2 with rfl | rfl
    · refine ⟨oi2, h2, .inr ⟨k2.2.2, fun w' hw' => ⟨_, _, _, .inl (run_mk k2.1), two_q hw', ?_⟩⟩⟩
      rw [k2.2.1]
      exact T1 _ _ _ _ c12 c12t (em e1) rfl
    · refine ⟨ot1, h3, .inr ⟨k3.2.2, fun w' hw' => ⟨_, undef, _, .inr ⟨k3.2.1, run_sto _ _ k3.1 (ev_put s1) (by rw [ev_ne n2]; exact v1) (hw'.2.1 _ rfl).2⟩, two_wp hw', ?_⟩⟩⟩
      rw [k3.2.1]
      obtain ⟨b5, b6⟩ := subB_spec c1t
      refine ⟨b5, fun x hx => ?_⟩
      obtain rfl : x = i2 := by simpa using b6 x hx
      refine ⟨oi2, h2, .inr ⟨k2.2.2, fun w2 hw2 => ⟨_, _, _, .inl (run_mk k2.1), two_q hw2, ?_⟩⟩⟩
      rw [k2.2.1]
      exact T2 _ _ _ _ c1t2 (em e3) rfl
  · -- the second box first
    refine ⟨oi2, h2, .inr ⟨k2.2.2, fun w hw => ⟨_, _, _, .inl (run_mk k2.1), two_q hw, ?_⟩⟩⟩
    rw [k2.2.1]
    obtain ⟨b3, b4⟩ := subB_spec c2
    refine ⟨b3, fun i hi => ?_⟩
    obtain rfl : i = i1 := by simpa using b4 i hi
    refine ⟨oi1, h1, .inr ⟨k1.2.2, fun w' hw' => ⟨_, _, _, .inl (run_mk k1.1), two_p hw', ?_⟩⟩⟩
    rw [k1.2.1]
    exact T1 _ _ _ _ c21 c21t (em e2) (Act.put_comm _ _ _ fun d e h => by injection e with e; injection h with h; exact n1 (h.trans e.symm))
end
/-- THE LAW of a region that makes two fractions out of what it reads. -/
theorem region_two {l : List Oper} {id : Nat} {w : World} {Q : Exit → Act → World → Prop} {a : Act} (n : Nat) (hs : List Nat) (i1 i2 t1 t2 : Nat) (d1 d2 y1 y2 : Tmp) {oi1 oi2 ot1 ot2 : Oper} {f g : Fr}
    (hB : (Region.noSelect l.toArray && headB .any l.toArray hs (Array.replicate l.toArray.size false) && twoOk l.toArray (listAll hs (Array.replicate l.toArray.size false)) i1 i2 t1 t2 && dstsOk n (hs.map fun i => l.getD i default) && (hs.all fun i => decide (i < l.length)) && decide (hs.length + 4 = l.length)) = true) (hn : a.tmps.size = n)
    (h1 : l.toArray[i1]? = some oi1) (h2 : l.toArray[i2]? = some oi2) (h3 : l.toArray[t1]? = some ot1) (h4 : l.toArray[t2]? = some ot2)
    (k1 : oi1.op = .alloc 52 ∧ oi1.dst = some d1 ∧ oi1.guard = none) (k2 : oi2.op = .alloc 52 ∧ oi2.dst = some d2 ∧ oi2.guard = none)
    (k3 : ot1.op = .store 52 (.tmp d1) (.tmp y1) ∧ ot1.dst = none ∧ ot1.guard = none) (k4 : ot2.op = .store 52 (.tmp d2) (.tmp y2) ∧ ot2.dst = none ∧ ot2.guard = none)
    (n1 : d1 ≠ d2) (n2 : y1 ≠ d1) (n3 : y1 ≠ d2) (n4 : y2 ≠ d1) (n5 : y2 ≠ d2)
    (h : ∃ aF : Act, (∀ wb, Up w wb → wpQuiet Try.prog l.toArray (fun w' => ∃ z : BW wb.heap.size wb, w' = z.val) (fun a' => a' = aF) (hs.map fun i => l.getD i default) a) ∧ (d1 < aF.tmps.size ∧ d2 < aF.tmps.size) ∧
      (aF.eval (.tmp y1) = .agg #[.int .i64 f.n, .int .i64 f.d] ∧ aF.eval (.tmp y2) = .agg #[.int .i64 g.n, .int .i64 g.d]) ∧
      ∀ (p q : Nat) (w' : World), w.heap.size ≤ p → w.heap.size ≤ q → p ≠ q → FrB w' p f → FrB w' q g → Up w w' → Q .normal ((aF.put (some d1) (.pointer (some ⟨p, 0, none⟩))).put (some d2) (.pointer (some ⟨q, 0, none⟩))) w') : (Code.region id l.toArray true).wp Try.prog Q a w := by
  simp only [Bool.and_eq_true, decide_eq_true_eq] at hB
  obtain ⟨⟨⟨⟨⟨hsel, hhead⟩, htwo⟩, hd⟩, hlt⟩, hlen⟩ := hB
  obtain ⟨aF, hq, ⟨s1, s2⟩, ⟨v1, v2⟩, ht⟩ := h
  have hlt1 : ∀ i ∈ hs, i < l.length := fun i hi => by simpa using List.all_eq_true.1 hlt i hi
  have hup : wpUp Try.prog l.toArray w (hs.map fun i => l.getD i default) a aF := up_of_quiet _ a (by rw [hn]; exact hd) hq
  have H := HA.lex (P := Try.prog) (md := .any) (I := TwoI w f g) (root := w) (L := TwoL l.toArray aF d1 d2) hsel (fun _ _ _ h => h.1) 4 hs _ _ a (map_getD hs fun i hi => hlt1 i hi) headInv0 hhead hup
    (two_tail (f := f) (g := g) (root := w) _ htwo h1 h2 h3 h4 k1 k2 k3 k4 n1 n2 n3 n4 n5 s1 s2 v1 v2)
  refine wp_region_any (by kernel_rfl) ?_
  have hz := HA.any (P := Try.prog) (md := .any) (ops := l.toArray) (I := TwoI w f g) (root := w) (L := TwoL l.toArray aF d1 d2) (Q' := Q) (fun s w' h => h.1) (fun s w' w'' h hb => TwoI.up h hb) (fun listed a s w' hI hL => by
    obtain ⟨hr, p, q, rfl, rfl⟩ := hL
    obtain ⟨g1, g2, g3, g4⟩ := hI
    exact ⟨hr, ht p q w' (g2 p rfl).1 (g3 q rfl).1 (g4 p q rfl rfl) (g2 p rfl).2 (g3 q rfl).2 g1⟩) (hs.length + 4) _ a ⟨none, none, false, false⟩ w.drew ⟨(Below.refl w.heap.size w).drew, fun p e => (by cases e), fun p e => (by cases e), fun p q e => (by cases e)⟩ H
  have e : hs.length + 4 = l.toArray.size := by
    have : l.toArray.size = l.length := by simp
    omega
  rw [e] at hz
  exact hz
end Go.Proofs.Ytfkcpcdndleboaa

/- A load of a row in a quiet region; boxes that are only read. -/
namespace Go.Proofs.Ytfkcpcdndleboaa
open Go.RowKit
theorem flatB_at : ∀ (L : List Bxv) (k j : Nat) (hk : k < L.length), j < 15 → (flatB L)[k * 15 + j]? = (bxC L[k])[j]?
  | g :: L, 0, j, _, hj => by
    unfold flatB
    rw [List.flatMap_cons, List.getElem?_append_left (by unfold bxC; simp; omega)]
    simp
  | g :: L, k + 1, j, hk, hj => by
    have ih := flatB_at L k j (by simpa using hk) hj
    unfold flatB at ih ⊢
    rw [List.flatMap_cons, List.getElem?_append_right (by unfold bxC; simp; omega), List.getElem_cons_succ, ← ih]
    congr 1
    unfold bxC
    simp
    omega
theorem quiet_load_row {P : Program} {ops : Array Oper} {C : World → Prop} {Q : Act → Prop} {rest : List Oper} {o : Oper} {a : Act} (hgd : o.guard = none) (ty : TypeId) (x : Operand) (ho : o.op = .load ty x) (b of : Nat) (cs : List Value) (d : TypeDesc) (hx : a.eval x = .pointer (some ⟨b, of, none⟩)) (hr : ∀ w, C w → w.rangeAt b of cs)
    (hu : P.underlying ty = some d) (hd : d.isRow = true) (hi : (P.info? ty).map (·.size) = some cs.length) (h : wpQuiet P ops C Q rest (a.put o.dst (.agg cs.toArray))) : wpQuiet P ops C Q (o :: rest) a := by
  unfold wpQuiet
  rw [if_pos (by simp [Region.wanted, hgd])]
  refine ⟨.agg cs.toArray, fun w hw => ?_, h⟩
  unfold Oper.quietAt execOp
  simp only [ho, hx, Instr.loadAt, Instr.sureAddr, Sem.run_bind, Sem.run_pure, Result.andThen_ok, run_loadVar_mid w b of ty cs d (hr w hw) hu hd hi, Oper.quietUpon, and_self]
/-- Boxes that are only read. -/
def Bxr (w : World) (B : Nat) (A : Option Addr) (L : List Bxv) : Prop := Reads w B 15 A L.length (flatB L)
theorem Bxr.at {w : World} {B : Nat} {A : Option Addr} {L : List Bxv} (h : Bxr w B A L) (hl : 0 < L.length) : ∃ b o, A = some ⟨b, o, none⟩ ∧ b < B ∧ ∀ j (hj : j < L.length), w.rangeAt b (o + j * 15) (bxC L[j]) := by
  have hfl : (flatB L).length = L.length * 15 := by
    clear h hl
    induction L with
    | nil => rfl
    | cons x L ih => unfold flatB at ih ⊢; rw [List.flatMap_cons, List.length_append, ih, List.length_cons]; unfold bxC; simp; omega
  obtain ⟨b, o, e, hb, hc⟩ := Reads.at0 h hl (by rw [hfl]; omega)
  refine ⟨b, o, e, hb, fun j hj k u hu => ?_⟩
  have hk : k < 15 := by
    have := (List.getElem?_eq_some_iff.1 hu).1
    unfold bxC at this
    simpa using this
  rw [Nat.add_assoc]
  exact hc (j * 15 + k) u ((flatB_at L j k hj hk).trans hu)
end Go.Proofs.Ytfkcpcdndleboaa
