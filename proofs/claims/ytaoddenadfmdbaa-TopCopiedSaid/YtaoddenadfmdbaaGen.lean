/- UTIL: a region that draws its order: operations that read or call, then a tail in a forced order: one walk, the world of the tail any one of a class. -/
import Derived.StillTail
import Derived.Deep.Quiet
import Derived.Test.YtaoddenadfmdbaaUtil
namespace Go.Proofs.Ytaoddenadfmdbaa
open Go.RowKit
section
variable {P : Program} {ops : Array Oper} {md : Region.Mode} {C : World → Prop}
/-- Whatever order is picked among the first n operations. -/
def HeadQ (P : Program) (md : Region.Mode) (ops : Array Oper) (C : World → Prop) (n : Nat) (L : Array Bool → Act → Prop) : Nat → Array Bool → Act → Prop
  | 0, listed, a => L listed a
  | f + 1, listed, a => Region.ready md ops listed ≠ [] ∧ ∀ i ∈ Region.ready md ops listed, i < n ∧ qOp P ops C i (HeadQ P md ops C n L f (listed.setIfInBounds i true)) a
theorem HeadQ.any {n g : Nat} {L : Array Bool → Act → Prop} {Q' : Exit → Act → World → Prop} (hL : ∀ listed a w, C w → L listed a → wpAny P md ops Q' g listed a w) :
    ∀ (f : Nat) (listed : Array Bool) (a : Act) (w : World), C w → HeadQ P md ops C n L f listed a → wpAny P md ops Q' (f + g) listed a w
  | 0, listed, a, w, hw, h => by rw [Nat.zero_add]; exact hL _ _ _ hw h
  | f + 1, listed, a, w, hw, h => by
    have e : f + 1 + g = (f + g) + 1 := by omega
    rw [e]
    exact ⟨fun h0 => absurd h0 h.1, fun i hi => wpOp_of_qOp hw (fun a' w' hw' h' => HeadQ.any hL f _ a' w' hw' h') (h.2 i hi).2⟩
section
variable {n : Nat} {L : Array Bool → Act → Prop} (hsel : ∀ (j : Nat) (o : Oper) cs b, ops[j]? = some o → o.op ≠ .select cs b) (hs : Region.sinkB md ops n = true) (hc : Region.chainB md ops n = true) (hn : n < ops.size) (hdone : ∀ listed a, L listed a → ∀ j ∈ Region.ready md ops listed, n ≤ j)
include hsel hs hc hn hdone
/-- An operation of the head that is free may be taken first. -/
theorem HeadQ.first {i : Nat} {oi : Oper} {v : Value} (hi : ops[i]? = some oi) (hin : i < n) : ∀ (f : Nat) (listed : Array Bool) (a : Act), HeadInv md ops n listed →
      (∀ j oj, ops[j]? = some oj → j ≠ i → listed.getD j true = false → (∀ e ∈ oj.after, Region.binds md e = true → e.on ≠ i) → oi.apart ops oj = true) →
      i ∈ Region.ready md ops listed → YieldsIn P ops C oi v a → HeadQ P md ops C n L f (listed.setIfInBounds i true) (a.put oi.dst v) → HeadQ P md ops C n L (f + 1) listed a := by
  intro f
  have low : ∀ (listed : Array Bool), HeadInv md ops n listed → i ∈ Region.ready md ops listed → ∀ j ∈ Region.ready md ops listed, j < n := fun listed inv hr j hj => by
    rcases Nat.lt_or_ge j n with h | h
    · exact h
    · exact absurd hj (tail_waits hs hc hn inv _ i rfl hin (mem_ready.1 hr).1 j h)
  have ne : ∀ (listed : Array Bool), i ∈ Region.ready md ops listed → Region.ready md ops listed ≠ [] := fun listed hr h => by rw [h] at hr; cases hr
  induction f with
  | zero =>
    intro listed a inv _ hr hy H
    refine ⟨ne _ hr, fun j hj => ⟨low _ inv hr j hj, ?_⟩⟩
    by_cases hji : j = i
    · subst hji; exact hy.qOp hi H
    · have h1 := hdone _ _ H j (ready_mono hj hji)
      have h2 := low _ inv hr j hj
      omega
  | succ f ih =>
    intro listed a inv hfree hr hy H
    refine ⟨ne _ hr, fun j hj => ⟨low _ inv hr j hj, ?_⟩⟩
    have hjn := low _ inv hr j hj
    by_cases hji : j = i
    · subst hji; exact hy.qOp hi H
    · have h1 := (H.2 j (ready_mono hj hji)).2
      obtain ⟨hjun, oj, hoj, hall⟩ := mem_ready.1 hj
      have hun := getD_both (mem_ready.1 hr).1
      have hnot : ∀ e ∈ oj.after, Region.binds md e = true → e.on ≠ i := fun e he hb heq => by
        have h3 := hall e he hb
        rw [heq, hun] at h3
        cases h3
      have h2 := qOp_put hoj (hfree j oj hoj hji hjun hnot) (fun cs b => hsel i oi cs b hi) (fun cs b => hsel j oj cs b hoj) hy h1
      refine qOp_mono (fun a' h3 => ih (listed.setIfInBounds j true) a' (inv.set hj hjn) (fun k ok hk hki hku hno => ?_) (ready_mono hr (Ne.symm hji)) h3.1 ?_) h2
      · have hku2 : listed.getD k true = false := by
          by_cases hjk : j = k
          · subst hjk; exact hjun
          · rw [getD_set_ne true hjk] at hku; exact hku
        exact hfree k ok hk hki hku2 hno
      · rw [Array.setIfInBounds_comm _ _ hji]
        exact h3.2
end
theorem HeadQ.lex {n g : Nat} {Lq : Act → Prop} (hsel : Region.noSelect ops = true) (hs : Region.sinkB md ops n = true) (hc : Region.chainB md ops n = true) (hn : n < ops.size) :
    ∀ (l : List Oper) (k : Nat) (listed : Array Bool) (a : Act), (∀ j, j < l.length → l[j]? = ops[k + j]?) → k + l.length = n → HeadInv md ops n listed →
    Region.lexHead md ops g l.length k listed = true → wpQuiet P ops C Lq l a → HeadQ P md ops C n (fun listed' a' => Region.seqB md ops g n listed' = true ∧ Lq a') l.length listed a
  | [], k, listed, a, _, hk, _, hB, h => by
    obtain rfl : k = n := by simpa using hk
    exact ⟨by simpa [Region.lexHead] using hB, h⟩
  | o :: l, k, listed, a, hl, hk, inv, hB, h => by
    have h0 : ops[k]? = some o := by simpa using (hl 0 (by simp)).symm
    have hk2 : k + (l.length + 1) = n := by simpa using hk
    simp only [List.length_cons, Region.lexHead, Bool.and_eq_true] at hB
    obtain ⟨⟨hr, hf⟩, hB'⟩ := hB
    have hr' : k ∈ Region.ready md ops listed := by simpa using hr
    have hkn : k < n := by omega
    have hst : qOp P ops C k (wpQuiet P ops C Lq l) a := by unfold qOp; simp only [h0]; exact h
    obtain ⟨v, hy, hK⟩ := yieldsIn_of_qOp h0 hst
    refine HeadQ.first (Region.noSelect_spec hsel) hs hc hn (fun listed' a' hL => seqB_ready hL.1) h0 hkn l.length listed a inv (Region.free_spec h0 hf) hr' hy ?_
    refine HeadQ.lex hsel hs hc hn l (k + 1) _ _ (fun j hj => ?_) (by omega) (inv.set hr' hkn) hB' hK
    have := hl (j + 1) (by simp; omega)
    simpa [Nat.add_assoc, Nat.add_comm 1 j] using this
end
/-- The region's law. -/
theorem region_tail {P : Program} {C : World → Prop} {id : Nat} {Q : Exit → Act → World → Prop} {a : Act} {w : World} {l : List Oper} (n : Nat) (hm : P.follows .mixedOrders = true) (hB : Region.lexTailB .any l.toArray n = true) (hC : C { w with drawn := w.drawn + 1 })
    (h : wpQuiet P l.toArray C (fun a' => ∀ w', C w' → wpList P l.toArray Q (l.drop n) a' w') (l.take n) a) : (Code.region id l.toArray true).wp P Q a w := by
  simp only [Region.lexTailB, Bool.and_eq_true, decide_eq_true_eq] at hB
  obtain ⟨⟨⟨⟨hsel, hn⟩, hs⟩, hc⟩, hlex⟩ := hB
  have hn' : n < l.length := by simpa using hn
  have htl : (l.take n).length = n := by rw [List.length_take]; omega
  have hdl : (l.drop n).length = l.toArray.size - n := by simp
  have inv0 : HeadInv .any l.toArray n (Array.replicate l.toArray.size false) :=
    ⟨by simp, fun j oj _ hl => (by rw [getD_replicate_false] at hl; cases hl), fun t _ ht => getD_in (by simpa using ht) (getD_replicate_false _ _)⟩
  have H := HeadQ.lex (md := .any) (g := l.toArray.size - n) hsel hs hc hn (l.take n) 0 _ a (fun j hj => by
    have hj' : j < n := by rw [htl] at hj; exact hj
    simp [hj']) (by simpa using htl) inv0 (by rw [htl]; exact hlex) h
  refine wp_region_any hm ?_
  have hz := HeadQ.any (Q' := Q) (g := l.toArray.size - n) (fun listed a' w' hw' (hL : Region.seqB .any l.toArray (l.toArray.size - n) n listed = true ∧ ∀ w', C w' → wpList P l.toArray Q (l.drop n) a' w') => (by
    have h1 := wpAny_of_seq (md := .any) (ops := l.toArray) (P := P) (Q' := Q) (l.drop n) n listed a' w' (fun j => by simp) (by rw [hdl]; exact hL.1) (hL.2 w' hw')
    rw [hdl] at h1
    exact h1)) (l.take n).length _ a _ hC H
  have e : (l.take n).length + (l.toArray.size - n) = l.toArray.size := by
    have : l.toArray.size = l.length := by simp
    omega
  rw [e] at hz
  exact hz
/-- The same in the class of worlds in which all below n₀ is as it was. -/
theorem region_belowT {P : Program} {l : List Oper} {id n0 : Nat} {wb w : World} {Q : Exit → Act → World → Prop} {a : Act} (n : Nat) (hm : P.follows .mixedOrders = true) (hB : Region.lexTailB .any l.toArray n = true) (hb : Below n0 wb w)
    (h : wpQuiet P l.toArray (fun w' => ∃ z : BW n0 wb, w' = z.val) (fun a' => ∀ w', (∃ z : BW n0 wb, w' = z.val) → wpList P l.toArray Q (l.drop n) a' w') (l.take n) a) : (Code.region id l.toArray true).wp P Q a w :=
  region_tail n hm hB ⟨⟨w.drew, hb.drew⟩, rfl⟩ h
end Go.Proofs.Ytaoddenadfmdbaa

/- UTIL: a region that draws its order: reads and calls, up to two fresh boxes at any time, then a tail in a forced order. -/
namespace Go.Proofs.Ytaoddenadfmdbaa
open Go.RowKit
theorem nw_blk0 (w : World) (o : Obj) : (w.alloc o).heap[w.heap.size]? = some o := heap_alloc_new w o
/-- A world behind another one. -/
abbrev Up (w0 w : World) : Prop := Below w0.heap.size w0 w
theorem Up.trans {a b c : World} (h : Up a b) (k : Up b c) : Up a c := Below.trans h (k.mono h.size)
section
variable {P : Program} {ops : Array Oper} {md : Region.Mode}
theorem quietAt_mono {o : Oper} {a : Act} {C C' : World → Prop} {w : World} {v : Value} (hC : ∀ w, C w → C' w) (h : o.quietAt P a C w v) : o.quietAt P a C' w v := by
  unfold Oper.quietAt at *
  generalize (execOp a.eval o).run P w = r at *
  cases r with
  | ok n w' =>
    cases n <;> simp only [Oper.quietUpon] at h ⊢
    case value => exact h
    case skip => exact h
    case enter f args => exact ⟨h.1, h.2.mono fun e w'' ⟨he, hw⟩ => ⟨he, hC _ hw⟩⟩
  | halt => simp only [Oper.quietUpon] at h
/-- An operation yields this value in every world behind a world, and leaves one behind that. -/
def YUp (P : Program) (ops : Array Oper) (o : Oper) (v : Value) (a : Act) (w0 : World) : Prop :=
  (Region.wanted o (yielded ops a.tmps) = true ∧ ∀ w, Up w0 w → o.quietAt P a (Up w) w v) ∨ (Region.wanted o (yielded ops a.tmps) = false ∧ v = undef)
theorem YUp.up {o : Oper} {v : Value} {a : Act} {w0 w1 : World} (h : YUp P ops o v a w0) (hw : Up w0 w1) : YUp P ops o v a w1 := h.imp (fun h => ⟨h.1, fun w h1 => h.2 w (hw.trans h1)⟩) id
theorem YUp.of_same {o : Oper} {v : Value} {a a' : Act} {w0 : World} (hy : YUp P ops o v a w0) (he : execOp a'.eval o = execOp a.eval o) (hw : Region.wanted o (yielded ops a'.tmps) = Region.wanted o (yielded ops a.tmps)) : YUp P ops o v a' w0 := by
  unfold YUp Oper.quietAt at *
  rw [he, hw]
  exact hy
theorem YUp.wp {i : Nat} {o : Oper} {v : Value} {a : Act} {w0 w : World} {K : Act → World → Prop} {Q : Exit → Act → World → Prop} (hi : ops[i]? = some o) (hy : YUp P ops o v a w0) (hw : Up w0 w) (h : ∀ w', Up w w' → K (a.put o.dst v) w') : wpOp P ops Q i K a w := by
  unfold wpOp
  simp only [hi]
  rcases hy with ⟨hwt, hq⟩ | ⟨hwt, rfl⟩
  · simp only [hwt, if_true]
    left
    have h3 := hq w hw
    unfold Oper.quietAt at h3
    unfold Oper.wp
    generalize (execOp a.eval o).run P w = r at *
    cases r with
    | ok n w' =>
      cases n <;> simp only [Oper.quietUpon] at h3 <;> simp only [Oper.upon]
      case value u =>
        obtain ⟨e1, e2⟩ := h3
        rw [e1, e2]
        exact h _ (Below.refl _ _)
      case skip =>
        obtain ⟨e1, e2⟩ := h3
        rw [e1, ← e2]
        exact h _ (Below.refl _ _)
      case enter f args =>
        obtain ⟨e1, hc⟩ := h3
        rw [e1]
        exact hc.mono fun e w'' ⟨he, hw''⟩ => by subst he; exact h _ hw''
    | halt x w' => simp only [Oper.quietUpon] at h3
  · simp only [hwt, Bool.false_eq_true, if_false]
    exact h _ (Below.refl _ _)
/-- An operation that makes a box. -/
def XAl (P : Program) (o : Oper) (Z : Obj) : Prop := o.guard = none ∧ ∀ (a : Act) (w : World), (execOp a.eval o).run P w = .ok (.value (.pointer (some ⟨w.heap.size, 0, none⟩))) (w.alloc Z)
def XOp (P : Program) (ops : Array Oper) (i : Nat) (K : Act → World → Prop) (a : Act) (w0 : World) : Prop :=
  ∃ o, ops[i]? = some o ∧ ((∃ v, YUp P ops o v a w0 ∧ K (a.put o.dst v) w0) ∨ (∃ Z, XAl P o Z ∧ ∀ w', Up w0 w' → K (a.put o.dst (.pointer (some ⟨w'.heap.size, 0, none⟩))) (w'.alloc Z)))
theorem XOp.mono {i : Nat} {K K' : Act → World → Prop} {a : Act} {w0 : World} (h : ∀ a w, K a w → K' a w) (hx : XOp P ops i K a w0) : XOp P ops i K' a w0 := by
  obtain ⟨o, ho, hx⟩ := hx
  refine ⟨o, ho, ?_⟩
  rcases hx with ⟨v, h1, h2⟩ | ⟨Z, h1, h2⟩
  · exact .inl ⟨v, h1, h _ _ h2⟩
  · exact .inr ⟨Z, h1, fun w' hw => h _ _ (h2 w' hw)⟩
theorem XOp.wp {i : Nat} {K : Act → World → Prop} {a : Act} {w0 w : World} {Q : Exit → Act → World → Prop} (hx : XOp P ops i K a w0) (hw : Up w0 w) {K' : Act → World → Prop} (h : ∀ a w1 w', Up w1 w' → K a w1 → K' a w') : wpOp P ops Q i K' a w := by
  obtain ⟨o, ho, hx⟩ := hx
  rcases hx with ⟨v, h1, h2⟩ | ⟨Z, h1, h2⟩
  · exact h1.wp ho hw fun w' hw' => h _ _ _ (hw.trans hw') h2
  · unfold wpOp
    have hwt : Region.wanted o (yielded ops a.tmps) = true := by simp [Region.wanted, h1.1]
    simp only [ho, hwt, if_true]
    left
    unfold Oper.wp
    rw [h1.2 a w]
    exact h _ _ _ (Below.refl _ _) (h2 w hw)
/-- Whatever order is picked in the front. -/
def HX (P : Program) (md : Region.Mode) (ops : Array Oper) (L : Array Bool → Act → World → Prop) : Nat → Array Bool → Act → World → Prop
  | 0, listed, a, w0 => L listed a w0
  | f + 1, listed, a, w0 => Region.ready md ops listed ≠ [] ∧ ∀ i ∈ Region.ready md ops listed, XOp P ops i (fun a' w' => HX P md ops L f (listed.setIfInBounds i true) a' w') a w0
theorem HX.any {g : Nat} {L : Array Bool → Act → World → Prop} {Q' : Exit → Act → World → Prop} (hL : ∀ listed a w0 w, Up w0 w → L listed a w0 → wpAny P md ops Q' g listed a w) :
    ∀ (f : Nat) (listed : Array Bool) (a : Act) (w0 w : World), Up w0 w → HX P md ops L f listed a w0 → wpAny P md ops Q' (f + g) listed a w
  | 0, listed, a, w0, w, hw, h => by rw [Nat.zero_add]; exact hL _ _ _ _ hw h
  | f + 1, listed, a, w0, w, hw, h => by
    have e : f + 1 + g = (f + g) + 1 := by omega
    rw [e]
    exact ⟨fun h0 => absurd h0 h.1, fun i hi => (h.2 i hi).wp hw fun a' w1 w' hw' h' => HX.any hL f _ a' w1 w' hw' h'⟩
/-- What must have come up ahead of an operation. -/
def covers (md : Region.Mode) (ops : Array Oper) : Nat → Nat → Nat → Bool
  | 0, _, _ => false
  | f + 1, i, x => match ops[i]? with
    | some o => o.after.any fun e => Region.binds md e && (e.on == x || covers md ops f e.on x)
    | none => false
theorem covers_spec {listed : Array Bool} (inv : HeadInv md ops ops.size listed) : ∀ (f i x : Nat), covers md ops f i x = true → (∀ o, ops[i]? = some o → ∀ e ∈ o.after, Region.binds md e = true → listed.getD e.on false = true) → listed.getD x false = true
  | 0, _, _, h, _ => by cases h
  | f + 1, i, x, h, hp => by
    unfold covers at h
    split at h
    · rename_i o ho
      obtain ⟨e, he, hb⟩ := Array.any_eq_true'.1 h
      simp only [Bool.and_eq_true, Bool.or_eq_true, beq_iff_eq] at hb
      obtain ⟨hb, hx⟩ := hb
      have hl := hp o ho e he hb
      rcases hx with rfl | hx
      · exact hl
      · exact covers_spec inv f e.on x hx fun o2 ho2 e2 he2 hb2 => inv.closed e.on o2 ho2 hl e2 he2 hb2
    · cases h
theorem no_tail {listed : Array Bool} (inv : HeadInv md ops ops.size listed) {f t x : Nat} (hc : covers md ops f t x = true) (hx : listed.getD x false = false) : t ∉ Region.ready md ops listed := fun ht => by
  obtain ⟨_, o, ho, hall⟩ := mem_ready.1 ht
  have h := covers_spec inv f t x hc fun o2 ho2 e he hb => by
    rw [ho] at ho2
    injection ho2 with ho2
    subst ho2
    exact hall e he hb
  rw [hx] at h
  cases h
section
variable {F : Nat} {front ts : List Nat} {L : Array Bool → Act → World → Prop} (hsel : ∀ (j : Nat) (o : Oper) cs b, ops[j]? = some o → o.op ≠ .select cs b)
  (hcov : ∀ t ∈ ts, ∀ x ∈ front, covers md ops F t x = true) (hdone : ∀ listed a w, L listed a w → ∀ j ∈ Region.ready md ops listed, j ∈ ts)
include hsel hcov hdone
theorem HX.first {i : Nat} {oi : Oper} {v : Value} (hi : ops[i]? = some oi) (hin : i ∈ front) : ∀ (f : Nat) (listed : Array Bool) (a : Act) (w0 : World), HeadInv md ops ops.size listed →
      (∀ j oj, ops[j]? = some oj → j ≠ i → listed.getD j true = false → (∀ e ∈ oj.after, Region.binds md e = true → e.on ≠ i) → oi.apart ops oj = true) →
      i ∈ Region.ready md ops listed → YUp P ops oi v a w0 → HX P md ops L f (listed.setIfInBounds i true) (a.put oi.dst v) w0 → HX P md ops L (f + 1) listed a w0 := by
  intro f
  have ne : ∀ (listed : Array Bool), i ∈ Region.ready md ops listed → Region.ready md ops listed ≠ [] := fun listed hr h => by rw [h] at hr; cases hr
  induction f with
  | zero =>
    intro listed a w0 inv _ hr hy H
    refine ⟨ne _ hr, fun j hj => ?_⟩
    by_cases hji : j = i
    · subst hji; exact ⟨oi, hi, .inl ⟨v, hy, H⟩⟩
    · have h1 := hdone _ _ _ H j (ready_mono hj hji)
      exact absurd hj (no_tail inv (hcov j h1 i hin) (getD_both (mem_ready.1 hr).1))
  | succ f ih =>
    intro listed a w0 inv hfree hr hy H
    refine ⟨ne _ hr, fun j hj => ?_⟩
    by_cases hji : j = i
    · subst hji; exact ⟨oi, hi, .inl ⟨v, hy, H⟩⟩
    · obtain ⟨oj, hoj, hx⟩ := H.2 j (ready_mono hj hji)
      obtain ⟨hjun, oj', hoj', hall⟩ := mem_ready.1 hj
      rw [hoj] at hoj'
      injection hoj' with hoj'
      subst hoj'
      have hjn : j < ops.size := (Array.getElem?_eq_some_iff.1 hoj).1
      have hun := getD_both (mem_ready.1 hr).1
      have hnot : ∀ e ∈ oj.after, Region.binds md e = true → e.on ≠ i := fun e he hb heq => by
        have h3 := hall e he hb
        rw [heq, hun] at h3
        cases h3
      obtain ⟨h1, h2, h3⟩ := Oper.apart_spec (hfree j oj hoj hji hjun hnot)
      have hsi : ∀ cs b, oi.op ≠ .select cs b := fun cs b => hsel i oi cs b hi
      have hsj : ∀ cs b, oj.op ≠ .select cs b := fun cs b => hsel j oj cs b hoj
      have keep : ∀ u, YUp P ops oi v (a.put oj.dst u) w0 := fun u => hy.of_same (execOp_put oi hsi a oj.dst u h3) (wanted_put oi a oj.dst u h3)
      have step : ∀ (u : Value) (w1 : World), Up w0 w1 → HX P md ops L f ((listed.setIfInBounds i true).setIfInBounds j true) ((a.put oi.dst v).put oj.dst u) w1 → HX P md ops L (f + 1) (listed.setIfInBounds j true) (a.put oj.dst u) w1 := fun u w1 hw1 h => by
        refine ih (listed.setIfInBounds j true) (a.put oj.dst u) w1 (inv.set hj hjn) (fun k ok hk hki hku hno => ?_) (ready_mono hr (Ne.symm hji)) ((keep u).up hw1) ?_
        · have hku2 : listed.getD k true = false := by
            by_cases hjk : j = k
            · subst hjk; exact hjun
            · rw [getD_set_ne true hjk] at hku; exact hku
          exact hfree k ok hk hki hku2 hno
        · rw [Array.setIfInBounds_comm _ _ hji, ← Act.put_comm a v u h2]
          exact h
      refine ⟨oj, hoj, ?_⟩
      rcases hx with ⟨u, hu, hK⟩ | ⟨Z, hZ, hK⟩
      · refine .inl ⟨u, ?_, step u w0 (Below.refl _ _) hK⟩
        exact hu.of_same (execOp_put oj hsj a oi.dst v h1).symm (wanted_put oj a oi.dst v h1).symm
      · exact .inr ⟨Z, hZ, fun w' hw' => step _ _ (Below.alloc hw' hw'.size _) (hK w' hw')⟩
end
/-- The values of a walk, read from its end. -/
def vof (aF : Act) (o : Oper) : Value := match o.dst with
  | some d => aF.tmps.getD d undef
  | none => undef
def wpUp (P : Program) (ops : Array Oper) (w0 : World) : List Oper → Act → Act → Prop
  | [], a, aF => a = aF
  | o :: r, a, aF => ∃ v, YUp P ops o v a w0 ∧ wpUp P ops w0 r (a.put o.dst v) aF
def dstsOk (n : Nat) : List Oper → Bool
  | [] => true
  | o :: r => (match o.dst with
    | some d => decide (d < n) && r.all (fun q => q.dst != some d)
    | none => false) && dstsOk n r
theorem put_get {a : Act} {d : Nat} {v : Value} (h : d < a.tmps.size) : (a.put (some d) v).tmps.getD d undef = v := by
  unfold Act.put
  simp [h]
theorem put_size {a : Act} {d : Option Tmp} {v : Value} : (a.put d v).tmps.size = a.tmps.size := by
  unfold Act.put
  cases d <;> simp
theorem quiet_tmp {C : World → Prop} {aF : Act} {d : Nat} : ∀ (r : List Oper) (a : Act), wpQuiet P ops C (fun a' => a' = aF) r a → r.all (fun q => q.dst != some d) = true → aF.tmps.getD d undef = a.tmps.getD d undef
  | [], a, h, _ => by rw [← h]
  | o :: r, a, h, hd => by
    simp only [List.all_cons, Bool.and_eq_true, bne_iff_ne] at hd
    have hp : ∀ v, (a.put o.dst v).tmps.getD d undef = a.tmps.getD d undef := fun v => by
      unfold Act.put
      cases hq : o.dst with
      | none => rfl
      | some q =>
        have : q ≠ d := fun e => hd.1 (by rw [hq, e])
        simp [Array.getElem?_setIfInBounds_ne this]
    unfold wpQuiet at h
    split at h
    · obtain ⟨v, _, h2⟩ := h
      exact (quiet_tmp r _ h2 hd.2).trans (hp v)
    · exact (quiet_tmp r _ h hd.2).trans (hp _)
theorem up_of_quiet {w0 : World} {aF : Act} : ∀ (l : List Oper) (a : Act), dstsOk a.tmps.size l = true → (∀ wb, Up w0 wb → wpQuiet P ops (fun w' => ∃ z : BW wb.heap.size wb, w' = z.val) (fun a' => a' = aF) l a) → wpUp P ops w0 l a aF
  | [], a, _, h => h w0 (Below.refl _ _)
  | o :: r, a, hd, h => by
    simp only [dstsOk, Bool.and_eq_true] at hd
    obtain ⟨hd1, hd2⟩ := hd
    split at hd1
    · rename_i d hdst
      simp only [Bool.and_eq_true, decide_eq_true_eq] at hd1
      obtain ⟨hd1, hd3⟩ := hd1
      cases hwt : Region.wanted o (yielded ops a.tmps) with
      | true =>
        have hv : ∀ wb, Up w0 wb → (∀ w, (∃ z : BW wb.heap.size wb, w = z.val) → o.quietAt P a (fun w' => ∃ z : BW wb.heap.size wb, w' = z.val) w (vof aF o)) ∧ wpQuiet P ops (fun w' => ∃ z : BW wb.heap.size wb, w' = z.val) (fun a' => a' = aF) r (a.put o.dst (vof aF o)) := fun wb hwb => by
          have h1 := h wb hwb
          unfold wpQuiet at h1
          rw [if_pos hwt] at h1
          obtain ⟨v, h2, h3⟩ := h1
          have h4 := quiet_tmp (d := d) r _ h3 hd3
          have e : v = vof aF o := by
            unfold vof
            rw [hdst] at h4 ⊢
            exact ((h4.trans (put_get hd1)).symm)
          rw [← e]
          exact ⟨h2, h3⟩
        refine ⟨vof aF o, .inl ⟨hwt, fun w hw => quietAt_mono (fun w' ⟨z, hz⟩ => by rw [hz]; exact z.ok) ((hv w hw).1 w ⟨⟨w, Below.refl _ _⟩, rfl⟩)⟩, ?_⟩
        exact up_of_quiet r _ (by rw [put_size]; exact hd2) fun wb hwb => (hv wb hwb).2
      | false =>
        refine ⟨undef, .inr ⟨hwt, rfl⟩, ?_⟩
        refine up_of_quiet r _ (by rw [put_size]; exact hd2) fun wb hwb => ?_
        have h1 := h wb hwb
        unfold wpQuiet at h1
        rw [if_neg (by rw [hwt]; decide)] at h1
        exact h1
    · cases hd1
def headB (md : Region.Mode) (ops : Array Oper) : List Nat → Array Bool → Bool
  | [], _ => true
  | i :: r, listed => (Region.ready md ops listed).contains i && Region.free md ops listed i && headB md ops r (listed.setIfInBounds i true)
def listAll : List Nat → Array Bool → Array Bool
  | [], listed => listed
  | i :: r, listed => listAll r (listed.setIfInBounds i true)
theorem HX.lex {F : Nat} {front ts : List Nat} {L : Array Bool → Act → World → Prop} (hsel : Region.noSelect ops = true) (hcov : ∀ t ∈ ts, ∀ x ∈ front, covers md ops F t x = true) (hdone : ∀ listed a w, L listed a w → ∀ j ∈ Region.ready md ops listed, j ∈ ts) {w0 : World} {aF : Act} (g : Nat) :
    ∀ (hs : List Nat) (l : List Oper) (listed : Array Bool) (a : Act), (∀ i ∈ hs, i ∈ front) → hs.map (fun i => ops[i]?) = l.map some → HeadInv md ops ops.size listed → headB md ops hs listed = true → wpUp P ops w0 l a aF →
      (∀ listed', listed' = listAll hs listed → HeadInv md ops ops.size listed' → HX P md ops L g listed' aF w0) → HX P md ops L (hs.length + g) listed a w0
  | [], l, listed, a, _, hl, inv, _, h, hb => by
    cases l with
    | nil =>
      rw [List.length_nil, Nat.zero_add]
      have e : a = aF := h
      rw [e]
      exact hb listed rfl inv
    | cons o l => simp at hl
  | i :: hs, l, listed, a, hin, hl, inv, hB, h, hb => by
    cases l with
    | nil => simp at hl
    | cons o l =>
      simp only [List.map_cons, List.cons.injEq] at hl
      obtain ⟨ho, hl⟩ := hl
      simp only [headB, Bool.and_eq_true] at hB
      obtain ⟨⟨hr, hf⟩, hB⟩ := hB
      obtain ⟨v, hy, h⟩ := h
      have hr' : i ∈ Region.ready md ops listed := by simpa using hr
      have hlt : i < ops.size := (Array.getElem?_eq_some_iff.1 ho).1
      have e : (i :: hs).length + g = (hs.length + g) + 1 := by simp; omega
      rw [e]
      exact HX.first (Region.noSelect_spec hsel) hcov hdone ho (hin i (by simp)) _ listed a w0 inv (Region.free_spec ho hf) hr' hy
        (HX.lex hsel hcov hdone g hs l _ _ (fun j hj => hin j (by simp [hj])) hl (inv.set hr' hlt) hB h hb)
def tailB (md : Region.Mode) (ops : Array Oper) : List Nat → Array Bool → Bool
  | [], listed => (Region.ready md ops listed).isEmpty
  | i :: r, listed => decide (Region.ready md ops listed = [i]) && tailB md ops r (listed.setIfInBounds i true)
theorem wpAny_tail {Q' : Exit → Act → World → Prop} : ∀ (ts : List Nat) (l : List Oper) (listed : Array Bool) (a : Act) (w : World), ts.map (fun i => ops[i]?) = l.map some → tailB md ops ts listed = true → wpList P ops Q' l a w → wpAny P md ops Q' ts.length listed a w
  | [], l, listed, a, w, hl, hB, h => by
    cases l with
    | nil => exact ⟨by simpa [tailB] using hB, h⟩
    | cons o l => simp at hl
  | i :: ts, l, listed, a, w, hl, hB, h => by
    cases l with
    | nil => simp at hl
    | cons o l =>
      simp only [List.map_cons, List.cons.injEq] at hl
      obtain ⟨ho, hl⟩ := hl
      simp only [tailB, Bool.and_eq_true, decide_eq_true_eq] at hB
      refine ⟨fun h1 => (by rw [hB.1] at h1; cases h1), fun j hj => ?_⟩
      rw [hB.1] at hj
      obtain rfl : j = i := by simpa using hj
      have hw : wpOp P ops Q' j (wpList P ops Q' l) a w := by unfold wpOp; simp only [ho]; exact h
      exact wpOp_mono (fun a' w' h' => wpAny_tail ts l _ a' w' hl hB.2 h') hw
theorem headInv0 : HeadInv md ops ops.size (Array.replicate ops.size false) :=
  ⟨by simp, fun j oj _ hl => (by rw [getD_replicate_false] at hl; cases hl), fun t h1 h2 => by omega⟩
end
/-- The conditions: the front's order, the tail's, what the tail waits for. -/
def genB (l : List Oper) (n : Nat) (hs ts : List Nat) : Bool :=
  Region.noSelect l.toArray && headB .any l.toArray hs (Array.replicate l.toArray.size false) && tailB .any l.toArray ts (listAll hs (Array.replicate l.toArray.size false)) &&
  (ts.all fun t => hs.all fun x => covers .any l.toArray 40 t x) && dstsOk n (hs.map fun i => l.getD i default) && ((hs ++ ts).all fun i => decide (i < l.length)) && decide (hs.length + ts.length = l.length)
theorem map_getD {l : List Oper} : ∀ (hs : List Nat), (∀ i ∈ hs, i < l.length) → hs.map (fun i => l.toArray[i]?) = (hs.map fun i => l.getD i default).map some
  | [], _ => rfl
  | i :: hs, h => by
    rw [List.map_cons, List.map_cons, List.map_cons, map_getD hs fun j hj => h j (by simp [hj])]
    congr 1
    have hi := h i (by simp)
    simp [hi]
theorem ready_tail {md : Region.Mode} {ops : Array Oper} {ts : List Nat} {listed : Array Bool} (h : tailB md ops ts listed = true) : ∀ j ∈ Region.ready md ops listed, j ∈ ts := by
  cases ts with
  | nil => intro j hj; simp only [tailB, List.isEmpty_iff] at h; rw [h] at hj; cases hj
  | cons t ts =>
    intro j hj
    simp only [tailB, Bool.and_eq_true, decide_eq_true_eq] at h
    rw [h.1] at hj
    have : j = t := by simpa using hj
    simp [this]
/-- THE LAW of a region whose front only reads and calls, in an order of one's own. -/
theorem region_perm {P : Program} {l : List Oper} {id : Nat} {w0 w : World} {Q : Exit → Act → World → Prop} {a : Act} (n : Nat) (hs ts : List Nat) (hm : P.follows .mixedOrders = true) (hB : genB l n hs ts = true) (hn : a.tmps.size = n) (hw : Up w0 w)
    (h : ∃ aF : Act, (∀ wb, Up w0 wb → wpQuiet P l.toArray (fun w' => ∃ z : BW wb.heap.size wb, w' = z.val) (fun a' => a' = aF) (hs.map fun i => l.getD i default) a) ∧
      ∀ w', Up w0 w' → wpList P l.toArray Q (ts.map fun i => l.getD i default) aF w') : (Code.region id l.toArray true).wp P Q a w := by
  obtain ⟨aF, hq, ht⟩ := h
  simp only [genB, Bool.and_eq_true, decide_eq_true_eq] at hB
  obtain ⟨⟨⟨⟨⟨⟨hsel, hhead⟩, htail⟩, hcov⟩, hd⟩, hlt⟩, hlen⟩ := hB
  have hlt1 : ∀ i ∈ hs ++ ts, i < l.length := fun i hi => by simpa using List.all_eq_true.1 hlt i hi
  have hcov1 : ∀ t ∈ ts, ∀ x ∈ hs, covers .any l.toArray 40 t x = true := fun t ht x hx => List.all_eq_true.1 (List.all_eq_true.1 hcov t ht) x hx
  have hup : wpUp P l.toArray w0 (hs.map fun i => l.getD i default) a aF := up_of_quiet _ a (by rw [hn]; exact hd) hq
  have H := HX.lex (md := .any) (ts := ts) (front := hs) (L := fun listed a' w' => tailB .any l.toArray ts listed = true ∧ a' = aF ∧ Up w0 w') hsel hcov1 (fun listed a w h => ready_tail h.1) 0 hs _ _ a (fun i hi => hi) (map_getD hs fun i hi => hlt1 i (by simp [hi])) headInv0 hhead hup (fun listed' e _ => ⟨by rw [e]; exact htail, rfl, Below.refl _ _⟩)
  refine wp_region_any hm ?_
  have hz := HX.any (Q' := Q) (g := ts.length) (fun listed a' w1 w' hw1 ⟨h1, h2, h3⟩ => by
    rw [h2]
    exact wpAny_tail ts _ listed aF w' (map_getD ts fun i hi => hlt1 i (by simp [hi])) h1 (ht w' (h3.trans hw1))) (hs.length + 0) _ a w0 w.drew hw.drew H
  have e : hs.length + 0 + ts.length = l.toArray.size := by
    have : l.toArray.size = l.length := by simp
    omega
  rw [e] at hz
  exact hz
def al2B (l : List Oper) (n : Nat) (hs : List Nat) (i1 i2 : Nat) (ts : List Nat) : Bool :=
  let s0 := Array.replicate l.toArray.size false
  let s1 := listAll hs s0
  let s2 := (s1.setIfInBounds i1 true).setIfInBounds i2 true
  Region.noSelect l.toArray && headB .any l.toArray hs s0 && tailB .any l.toArray ts s2 &&
  (ts.all fun t => (i1 :: i2 :: hs).all fun x => covers .any l.toArray 40 t x) && dstsOk n (hs.map fun i => l.getD i default) && ((i1 :: i2 :: (hs ++ ts)).all fun i => decide (i < l.length)) && decide (hs.length + 2 + ts.length = l.length) &&
  decide (Region.ready .any l.toArray s1 = [i1, i2]) && decide (Region.ready .any l.toArray (s1.setIfInBounds i1 true) = [i2]) && decide (Region.ready .any l.toArray (s1.setIfInBounds i2 true) = [i1]) && decide (i1 ≠ i2)
/-- THE LAW of a region in whose front two boxes are made. -/
theorem region_al2 {P : Program} {l : List Oper} {id : Nat} {w0 w : World} {Q : Exit → Act → World → Prop} {a : Act} (n : Nat) (hs : List Nat) (i1 i2 : Nat) (ts : List Nat) (d1 d2 : Nat) (o1 o2 : Oper) (Z1 Z2 : Obj) (hm : P.follows .mixedOrders = true) (hB : al2B l n hs i1 i2 ts = true) (hn : a.tmps.size = n) (hw : Up w0 w)
    (ho1 : l.toArray[i1]? = some o1) (ho2 : l.toArray[i2]? = some o2) (hd1 : o1.dst = some d1) (hd2 : o2.dst = some d2) (hdn : d1 ≠ d2) (hz1 : XAl P o1 Z1) (hz2 : XAl P o2 Z2)
    (h : ∃ aF : Act, (∀ wb, Up w0 wb → wpQuiet P l.toArray (fun w' => ∃ z : BW wb.heap.size wb, w' = z.val) (fun a' => a' = aF) (hs.map fun i => l.getD i default) a) ∧
      ∀ (p q : Nat) (w' : World), w0.heap.size ≤ p → w0.heap.size ≤ q → p ≠ q → w'.heap[p]? = some Z1 → w'.heap[q]? = some Z2 → Up w0 w' →
      wpList P l.toArray Q (ts.map fun i => l.getD i default) ((aF.put (some d1) (.pointer (some ⟨p, 0, none⟩))).put (some d2) (.pointer (some ⟨q, 0, none⟩))) w') : (Code.region id l.toArray true).wp P Q a w := by
  obtain ⟨aF, hq, ht⟩ := h
  simp only [al2B, Bool.and_eq_true, decide_eq_true_eq] at hB
  obtain ⟨⟨⟨⟨⟨⟨⟨⟨⟨⟨hsel, hhead⟩, htail⟩, hcov⟩, hd⟩, hlt⟩, hlen⟩, hr0⟩, hr1⟩, hr2⟩, hne⟩ := hB
  have hlt1 : ∀ i ∈ hs ++ ts, i < l.length := fun i hi => by simpa using List.all_eq_true.1 hlt i (by simp [List.mem_append.1 hi])
  have hcov1 : ∀ t ∈ ts, ∀ x ∈ i1 :: i2 :: hs, covers .any l.toArray 40 t x = true := fun t ht x hx => List.all_eq_true.1 (List.all_eq_true.1 hcov t ht) x hx
  have hup : wpUp P l.toArray w0 (hs.map fun i => l.getD i default) a aF := up_of_quiet _ a (by rw [hn]; exact hd) hq
  have hal : ∀ (x y : World) (Z : Obj), Up w0 x → Up (x.alloc Z) y → w0.heap.size ≤ x.heap.size ∧ x.heap.size < y.heap.size ∧ y.heap[x.heap.size]? = some Z ∧ Up w0 y := fun x y Z h1 h2 => by
    have h3 := h2.size
    have h4 : (x.alloc Z).heap.size = x.heap.size + 1 := by simp
    refine ⟨h1.size, by omega, (h2.block _ (by omega)).trans (nw_blk0 x Z), Up.trans (Below.alloc h1 h1.size Z) h2⟩
  have H := HX.lex (md := .any) (ts := ts) (front := i1 :: i2 :: hs) (L := fun listed a' w' => tailB .any l.toArray ts listed = true ∧ ∃ p q, a' = (aF.put (some d1) (.pointer (some ⟨p, 0, none⟩))).put (some d2) (.pointer (some ⟨q, 0, none⟩)) ∧ w0.heap.size ≤ p ∧ w0.heap.size ≤ q ∧ p ≠ q ∧ w'.heap[p]? = some Z1 ∧ w'.heap[q]? = some Z2 ∧ Up w0 w') hsel hcov1 (fun listed a w h => ready_tail h.1) 2 hs _ _ a (fun i hi => by simp [hi]) (map_getD hs fun i hi => hlt1 i (by simp [hi])) headInv0 hhead hup (fun listed' e _ => by
    subst e
    refine ⟨by rw [hr0]; simp, fun i hi => ?_⟩
    rw [hr0] at hi
    simp only [List.mem_cons, List.not_mem_nil, or_false] at hi
    rcases hi with rfl | rfl
    · refine ⟨o1, ho1, .inr ⟨Z1, hz1, fun x hx => ⟨by rw [hr1]; simp, fun j hj => ?_⟩⟩⟩
      rw [hr1] at hj
      obtain rfl : j = i2 := by simpa using hj
      refine ⟨o2, ho2, .inr ⟨Z2, hz2, fun y hy => ?_⟩⟩
      obtain ⟨b1, b2, b3, b4⟩ := hal x y Z1 hx hy
      refine ⟨htail, x.heap.size, y.heap.size, by rw [hd1, hd2], b1, by omega, by omega, ?_, nw_blk0 y Z2, Below.alloc b4 b4.size Z2⟩
      exact (Below.heap_alloc _ _ _ b2).trans b3
    · refine ⟨o2, ho2, .inr ⟨Z2, hz2, fun x hx => ⟨by rw [hr2]; simp, fun j hj => ?_⟩⟩⟩
      rw [hr2] at hj
      obtain rfl : j = i1 := by simpa using hj
      refine ⟨o1, ho1, .inr ⟨Z1, hz1, fun y hy => ?_⟩⟩
      obtain ⟨b1, b2, b3, b4⟩ := hal x y Z2 hx hy
      refine ⟨by rw [Array.setIfInBounds_comm _ _ (Ne.symm hne)]; exact htail, y.heap.size, x.heap.size, ?_, by omega, b1, by omega, nw_blk0 y Z1, ?_, Below.alloc b4 b4.size Z1⟩
      · rw [hd1, hd2]
        exact Act.put_comm aF _ _ fun d hd => by injection hd with hd; subst hd; intro h; injection h with h; exact hdn h
      · exact (Below.heap_alloc _ _ _ b2).trans b3)
  refine wp_region_any hm ?_
  have hz := HX.any (Q' := Q) (g := ts.length) (fun listed a' w1 w' hw1 ⟨h1, p, q, h2, h3, h4, h5, h6, h7, h8⟩ => by
    rw [h2]
    exact wpAny_tail ts _ listed _ w' (map_getD ts fun i hi => hlt1 i (by simp [hi])) h1 (ht p q w' h3 h4 h5 ((hw1.block p (lt_of_block h6)).trans h6) ((hw1.block q (lt_of_block h7)).trans h7) (h8.trans hw1))) (hs.length + 2) _ a w0 w.drew hw.drew H
  have e : hs.length + 2 + ts.length = l.toArray.size := by
    have : l.toArray.size = l.length := by simp
    omega
  rw [e] at hz
  exact hz
end Go.Proofs.Ytaoddenadfmdbaa
