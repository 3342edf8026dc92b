/- BASE: an append that says where the row lies: where it lay, or in new memory. -/
import Derived.Test.YtaoddenadfmdbaaUtil
import Derived.OrdersHeld
import Derived.Test.YtaoddenadfmdbaaGen
namespace Go.Proofs.Ytaoddenadfmdbaa
open Go.RowKit
theorem run_append_freshS {P : Program} (w : World) (base : Nat) (t ty e : TypeId) (i : TypeInfo) (z : Value) (size bytes : Nat) (ht : P.underlying t = some (.slice e)) (hi : P.info? e = some i) (hz : i.zero = some z)
    (hsize : i.size = size) (hby : i.bytes = bytes) (hzs : z.cells.size = size) (hsz : 0 < size)
    (v : Value) (n : Nat) (xs : List Value) (hown : w.ownsRow base e size v n xs)
    (a : Addr) (c : Nat) (ys : List Value) (hl : ys.length = size) (hy : ∀ j u, ys[j]? = some u → w.cell? (a.add j) = some u) (hy1 : ∀ u ∈ ys, u.oneCell' = true)
    (h63 : n + 1 ≤ maxLen) (hbytes : (n + 1) * bytes ≤ 140737488355328) (hbase : base ≤ w.heap.size) :
    ∃ v' w', (Builtin.append_ #[t, t] ty #[v, .slice (some a) 1 c]).run P w = .ok v' w' ∧ w'.ownsRow base e size v' (n + 1) (xs ++ ys) ∧ w.grownBy w' v.ownBlock ∧ ∀ k, v'.ownBlock = some k → v.ownBlock = some k ∨ w.heap.size ≤ k := by
  obtain ⟨v', w', hr0, h1, h2, _⟩ := run_append_own (P := P) w base t ty e i z size bytes ht hi hz hsize hby hzs hsz v n xs hown a 1 c ys (by omega) hy hy1 h63 hbytes hbase
  refine ⟨v', w', hr0, h1, h2, ?_⟩
  have hn63 : n + 1 ≤ 9223372036854775807 := by simp only [maxLen] at h63; omega
  subst hby
  rcases hown.2 with ⟨rfl, rfl⟩ | ⟨g, cap, cur, rfl, hbg, hg, hnc, hcm, hcs, htake⟩
  · have hr := run_append_nil (P := P) w t ty e i z ht hi hz a 1 c ys (by rw [hsize]; omega) hy (by omega) (by omega) (by omega)
    rw [hr0] at hr
    injection hr with hv _
    subst hv
    intro k hk
    have hk2 : w.heap.size = k := by injection hk
    exact .inr (by omega)
  · by_cases hroom : n + 1 ≤ cap
    · have hr := run_append_room (P := P) w t ty e i ht hi g n cap cur hg a 1 c ys (by rw [hsize]; omega) hy hy1 hroom (by
        rw [hsize, hcs]
        have := Nat.mul_le_mul_right size hroom
        rw [hl, Nat.add_mul] at *
        simp at *
        omega)
      rw [hr0] at hr
      injection hr with hv _
      subst hv
      exact fun k hk => .inl hk
    · have holds : ∀ j u, xs[j]? = some u → w.cell? ((⟨g, 0, none⟩ : Addr).add j) = some u := hown.cells (g := g) rfl
      have hr := run_append_grow (P := P) w t ty e i z ht hi hz ⟨g, 0, none⟩ n cap xs (by rw [hsize]; exact hown.1) holds a 1 c ys (by rw [hsize]; omega) hy (by omega) (by omega) (growslice_fits (by omega) hbytes)
      rw [hr0] at hr
      injection hr with hv _
      subst hv
      intro k hk
      have hk2 : w.heap.size = k := by injection hk
      exact .inr (by omega)
theorem app_elemF {P : Program} {ops : Array Oper} {rest : List Oper} {o : Oper} {a : Act} {w : World} {Q : Exit → Act → World → Prop} (hgd : o.guard = none) (s x : Operand) {t e : TypeId} {z : Value} {size bytes : Nat}
    (ht : P.underlying t = some (.slice e)) (hinfo : (P.info? e).map (fun i => (i.zero, i.size, i.bytes)) = some (some z, size, bytes)) (hz1 : z.cells.size = size) (hsz : 0 < size) (hb8 : bytes ≤ 1000)
    (ho : o.op = .call { callee := .builtin .append, args := #[s, x], argTypes := #[t, t] })
    (base : Nat) (v : Value) (n : Nat) (xs : List Value) (hs : a.eval s = v) (hown : w.ownsRow base e size v n xs)
    (ad : Addr) (ys : List Value) (hx : a.eval x = .slice (some ad) 1 1) (hl : ys.length = size) (hy : ∀ j u, ys[j]? = some u → w.cell? (ad.add j) = some u) (hy1 : ∀ u ∈ ys, u.oneCell' = true) (hn : n ≤ 10000000000) (hbase : base ≤ w.heap.size)
    (h : ∀ v' w', w'.ownsRow base e size v' (n + 1) (xs ++ ys) → w.grownBy w' v.ownBlock → (∀ k, v'.ownBlock = some k → v.ownBlock = some k ∨ w.heap.size ≤ k) → wpList P ops Q rest (a.put o.dst v') w') : wpList P ops Q (o :: rest) a w := by
  obtain ⟨i0, hi, hz0, hzz, hz2⟩ := info_parts hinfo
  have hm : (n + 1) * bytes ≤ 140737488355328 := by
    have := Nat.mul_le_mul_left (n + 1) hb8
    omega
  obtain ⟨v', w', hrun, r1, r2, r3⟩ := run_append_freshS (P := P) w base t o.type e i0 z size bytes ht hi hz0 hzz hz2 hz1 hsz v n xs hown ad 1 ys hl hy hy1 (by unfold maxLen; omega) hm hbase
  refine wpList_plain hgd fun K hK' => ?_
  unfold Oper.wp execOp
  simp only [ho, resolve, invoke, builtin, Sem.run_bind, Sem.run_pure, Result.andThen_ok, List.map_toArray, List.map_cons, List.map_nil, hs, hx, hrun]
  exact hK' _ _ (h v' w' r1 r2 r3)
end Go.Proofs.Ytaoddenadfmdbaa

/- UTIL: a region that draws its order and holds operations that write (calls, appends): reads that may come at any time, the rest in a forced order. -/
namespace Go.Proofs.Ytaoddenadfmdbaa
open Go.RowKit
section
variable {P : Program} {ops : Array Oper} {md : Region.Mode} {Q : Exit → Act → World → Prop} {S : World → Prop}
/-- Whatever order is picked in the front; S holds behind every operation. -/
def HS (P : Program) (md : Region.Mode) (ops : Array Oper) (Q : Exit → Act → World → Prop) (S : World → Prop) (L : Array Bool → Act → World → Prop) : Nat → Array Bool → Act → World → Prop
  | 0, listed, a, w => L listed a w
  | f + 1, listed, a, w => Region.ready md ops listed ≠ [] ∧ ∀ i ∈ Region.ready md ops listed, wpOp P ops Q i (fun a' w' => S w' ∧ HS P md ops Q S L f (listed.setIfInBounds i true) a' w') a w
theorem HS.any {g : Nat} {L : Array Bool → Act → World → Prop} (hL : ∀ listed a w, L listed a w → wpAny P md ops Q g listed a w) :
    ∀ (f : Nat) (listed : Array Bool) (a : Act) (w : World), HS P md ops Q S L f listed a w → wpAny P md ops Q (f + g) listed a w
  | 0, listed, a, w, h => by rw [Nat.zero_add]; exact hL _ _ _ h
  | f + 1, listed, a, w, h => by
    have e : f + 1 + g = (f + g) + 1 := by omega
    rw [e]
    exact ⟨fun h0 => absurd h0 h.1, fun i hi => wpOp_mono (fun a' w' h' => HS.any hL f _ a' w' h'.2) (h.2 i hi)⟩
section
variable {F : Nat} {front ts : List Nat} {L : Array Bool → Act → World → Prop} (hsel : ∀ (j : Nat) (o : Oper) cs b, ops[j]? = some o → o.op ≠ .select cs b) (hQ : ∀ (d : Option Tmp) v c a w, Q (.panic c) (Act.put a d v) w → Q (.panic c) a w)
  (hcov : ∀ t ∈ ts, ∀ x ∈ front, covers md ops F t x = true) (hdone : ∀ listed a w, L listed a w → ∀ j ∈ Region.ready md ops listed, j ∈ ts)
include hsel hQ hcov hdone
theorem HS.first {i : Nat} {oi : Oper} {v : Value} (hi : ops[i]? = some oi) (hin : i ∈ front) : ∀ (f : Nat) (listed : Array Bool) (a : Act) (w : World), HeadInv md ops ops.size listed →
      (∀ j oj, ops[j]? = some oj → j ≠ i → listed.getD j true = false → (∀ e ∈ oj.after, Region.binds md e = true → e.on ≠ i) → oi.apart ops oj = true) →
      i ∈ Region.ready md ops listed → YieldsIf P ops S oi v a → S w → HS P md ops Q S L f (listed.setIfInBounds i true) (a.put oi.dst v) w → HS P md ops Q S L (f + 1) listed a w := by
  intro f
  have ne : ∀ (listed : Array Bool), i ∈ Region.ready md ops listed → Region.ready md ops listed ≠ [] := fun listed hr h => by rw [h] at hr; cases hr
  induction f with
  | zero =>
    intro listed a w inv _ hr hy hS H
    refine ⟨ne _ hr, fun j hj => ?_⟩
    by_cases hji : j = i
    · subst hji; exact hy.wpOp hi hS ⟨hS, H⟩
    · have h1 := hdone _ _ _ H j (ready_mono hj hji)
      exact absurd hj (no_tail inv (hcov j h1 i hin) (getD_both (mem_ready.1 hr).1))
  | succ f ih =>
    intro listed a w inv hfree hr hy hS H
    refine ⟨ne _ hr, fun j hj => ?_⟩
    by_cases hji : j = i
    · subst hji; exact hy.wpOp hi hS ⟨hS, H⟩
    · have h1 := H.2 j (ready_mono hj hji)
      obtain ⟨hjun, oj, hoj, hall⟩ := mem_ready.1 hj
      have hjn : j < ops.size := (Array.getElem?_eq_some_iff.1 hoj).1
      have hun := getD_both (mem_ready.1 hr).1
      have hnot : ∀ e ∈ oj.after, Region.binds md e = true → e.on ≠ i := fun e he hb heq => by
        have h3 := hall e he hb
        rw [heq, hun] at h3
        cases h3
      have h2 := wpOp_putIf hoj (hfree j oj hoj hji hjun hnot) (fun cs b => hsel i oi cs b hi) (fun cs b => hsel j oj cs b hoj) (hQ oi.dst v) hy h1
      refine wpOp_mono (fun a' w' h3 => ⟨h3.2.1, ih (listed.setIfInBounds j true) a' w' (inv.set hj hjn) (fun k ok hk hki hku hno => ?_) (ready_mono hr (Ne.symm hji)) h3.1 h3.2.1 ?_⟩) h2
      · have hku2 : listed.getD k true = false := by
          by_cases hjk : j = k
          · subst hjk; exact hjun
          · rw [getD_set_ne true hjk] at hku; exact hku
        exact hfree k ok hk hki hku2 hno
      · rw [Array.setIfInBounds_comm _ _ hji]
        exact h3.2.2
/-- The reads, taken first, one by one. -/
def wpFl (P : Program) (ops : Array Oper) (S : World → Prop) : List Oper → Act → Act → Prop
  | [], a, aF => a = aF
  | o :: r, a, aF => ∃ v, YieldsIf P ops S o v a ∧ wpFl P ops S r (a.put o.dst v) aF
theorem HS.lex {aF : Act} {w : World} (hS : S w) (g : Nat) : ∀ (hs : List Nat) (l : List Oper) (listed : Array Bool) (a : Act), (∀ i ∈ hs, i ∈ front) → hs.map (fun i => ops[i]?) = l.map some → HeadInv md ops ops.size listed → headB md ops hs listed = true → wpFl P ops S l a aF →
      (∀ listed', listed' = listAll hs listed → HS P md ops Q S L g listed' aF w) → HS P md ops Q S L (hs.length + g) listed a w
  | [], l, listed, a, _, hl, inv, _, h, hb => by
    cases l with
    | nil =>
      rw [List.length_nil, Nat.zero_add]
      have e : a = aF := h
      rw [e]
      exact hb listed rfl
    | cons o l => simp at hl
  | i :: hs, l, listed, a, hin, hl, inv, hB, h, hb => by
    cases l with
    | nil => simp at hl
    | cons o l =>
      simp only [List.map_cons, List.cons.injEq] at hl
      obtain ⟨ho, hl⟩ := hl
      simp only [headB, Bool.and_eq_true] at hB
      obtain ⟨⟨hr, hf⟩, hB⟩ := hB
      obtain ⟨v, hy, h⟩ := h
      have hr' : i ∈ Region.ready md ops listed := by simpa using hr
      have hlt : i < ops.size := (Array.getElem?_eq_some_iff.1 ho).1
      have e : (i :: hs).length + g = (hs.length + g) + 1 := by simp; omega
      rw [e]
      exact HS.first hsel hQ hcov hdone ho (hin i (by simp)) _ listed a w inv (Region.free_spec ho hf) hr' hy hS
        (HS.lex hS g hs l _ _ (fun j hj => hin j (by simp [hj])) hl (inv.set hr' hlt) hB h hb)
end
/-- The writers, in their forced order. -/
def wpMid (P : Program) (Q : Exit → Act → World → Prop) (S : World → Prop) (Lq : Act → World → Prop) : List Oper → Act → World → Prop
  | [], a, w => Lq a w
  | o :: r, a, w => o.guard = none ∧ o.wp P a w (fun a' w' => S w' ∧ wpMid P Q S Lq r a' w') Q
theorem wpMid_step {Lq : Act → World → Prop} {o : Oper} {r : List Oper} {a : Act} {w : World} (hg : o.guard = none) (h : ∀ K : Act → World → Prop, Hid (∀ a' w', S w' → wpMid P Q S Lq r a' w' → K a' w') → o.wp P a w K Q) : wpMid P Q S Lq (o :: r) a w :=
  ⟨hg, h _ (hid fun _ _ h1 h2 => ⟨h1, h2⟩)⟩
def midB (md : Region.Mode) (ops : Array Oper) : List Nat → Array Bool → Bool
  | [], _ => true
  | i :: r, listed => decide (Region.ready md ops listed = [i]) && midB md ops r (listed.setIfInBounds i true)
theorem HS.mid {Lq : Act → World → Prop} : ∀ (ms : List Nat) (l : List Oper) (listed : Array Bool) (a : Act) (w : World), ms.map (fun i => ops[i]?) = l.map some → midB md ops ms listed = true → wpMid P Q S Lq l a w →
    HS P md ops Q S (fun listed' a' w' => listed' = listAll ms listed ∧ Lq a' w') ms.length listed a w
  | [], l, listed, a, w, hl, _, h => by
    cases l with
    | nil => exact ⟨rfl, h⟩
    | cons o l => simp at hl
  | i :: ms, l, listed, a, w, hl, hB, h => by
    cases l with
    | nil => simp at hl
    | cons o l =>
      simp only [List.map_cons, List.cons.injEq] at hl
      obtain ⟨ho, hl⟩ := hl
      simp only [midB, Bool.and_eq_true, decide_eq_true_eq] at hB
      refine ⟨fun h1 => (by rw [hB.1] at h1; cases h1), fun j hj => ?_⟩
      rw [hB.1] at hj
      obtain rfl : j = i := by simpa using hj
      have hw : wpOp P ops Q j (fun a' w' => S w' ∧ wpMid P Q S Lq l a' w') a w := by
        unfold wpOp
        have hwt : Region.wanted o (yielded ops a.tmps) = true := by simp [Region.wanted, h.1]
        simp only [ho, hwt, if_true]
        exact .inl h.2
      exact wpOp_mono (fun a' w' h' => ⟨h'.1, HS.mid ms l _ a' w' hl hB.2 h'.2⟩) hw
end
def callB (l : List Oper) (hs ms ts : List Nat) : Bool :=
  Region.noSelect l.toArray && headB .any l.toArray hs (Array.replicate l.toArray.size false) && midB .any l.toArray ms (listAll hs (Array.replicate l.toArray.size false)) && tailB .any l.toArray ts (listAll ms (listAll hs (Array.replicate l.toArray.size false))) &&
  (ts.all fun t => hs.all fun x => covers .any l.toArray 40 t x) && ((hs ++ (ms ++ ts)).all fun i => decide (i < l.length)) && decide (hs.length + (ms.length + ts.length) = l.length)
theorem HS.congr {P : Program} {md : Region.Mode} {ops : Array Oper} {Q : Exit → Act → World → Prop} {S : World → Prop} {L L' : Array Bool → Act → World → Prop} (h : ∀ l a w, L l a w → L' l a w) : ∀ (f : Nat) (listed : Array Bool) (a : Act) (w : World), HS P md ops Q S L f listed a w → HS P md ops Q S L' f listed a w
  | 0, _, _, _, H => h _ _ _ H
  | f + 1, _, _, _, H => ⟨H.1, fun i hi => wpOp_mono (fun _ _ h' => ⟨h'.1, HS.congr h f _ _ _ h'.2⟩) (H.2 i hi)⟩
theorem HS.split {P : Program} {md : Region.Mode} {ops : Array Oper} {Q : Exit → Act → World → Prop} {S : World → Prop} {L : Array Bool → Act → World → Prop} : ∀ (f g : Nat) (listed : Array Bool) (a : Act) (w : World), HS P md ops Q S (HS P md ops Q S L g) f listed a w → HS P md ops Q S L (f + g) listed a w
  | 0, g, _, _, _, H => by rw [Nat.zero_add]; exact H
  | f + 1, g, _, _, _, H => by
    rw [show f + 1 + g = (f + g) + 1 by omega]
    exact ⟨H.1, fun i hi => wpOp_mono (fun _ _ h' => ⟨h'.1, HS.split f g _ _ _ h'.2⟩) (H.2 i hi)⟩
/-- THE LAW: reads that may come at any time, writers in a forced order, then a tail. -/
theorem region_call {P : Program} {l : List Oper} {id : Nat} {w : World} {Q : Exit → Act → World → Prop} {a : Act} (hs ms ts : List Nat) (S : World → Prop) (hm : P.follows .mixedOrders = true) (hB : callB l hs ms ts = true) (hQ : ∀ (d : Option Tmp) v c a w, Q (.panic c) (Act.put a d v) w → Q (.panic c) a w) (hS : S w.drew)
    (h : ∃ aF : Act, wpFl P l.toArray S (hs.map fun i => l.getD i default) a aF ∧ wpMid P Q S (fun a' w' => wpList P l.toArray Q (ts.map fun i => l.getD i default) a' w') (ms.map fun i => l.getD i default) aF w.drew) : (Code.region id l.toArray true).wp P Q a w := by
  obtain ⟨aF, hf, hmid⟩ := h
  simp only [callB, Bool.and_eq_true, decide_eq_true_eq] at hB
  obtain ⟨⟨⟨⟨⟨⟨hsel, hhead⟩, hmb⟩, htail⟩, hcov⟩, hlt⟩, hlen⟩ := hB
  have hlt1 : ∀ i ∈ hs ++ (ms ++ ts), i < l.length := fun i hi => by simpa using List.all_eq_true.1 hlt i hi
  have hcov1 : ∀ t ∈ ts, ∀ x ∈ hs, covers .any l.toArray 40 t x = true := fun t ht x hx => List.all_eq_true.1 (List.all_eq_true.1 hcov t ht) x hx
  refine wp_region_any hm ?_
  have hM := HS.mid (md := .any) (ops := l.toArray) ms _ (listAll hs (Array.replicate l.toArray.size false)) aF w.drew (map_getD ms fun i hi => hlt1 i (by simp [hi])) hmb hmid
  have hM2 := HS.congr (L := fun listed a' w' => listed = listAll ms (listAll hs (Array.replicate l.toArray.size false)) ∧ wpList P l.toArray Q (ts.map fun i => l.getD i default) a' w') (L' := fun listed a' w' => tailB .any l.toArray ts listed = true ∧ wpList P l.toArray Q (ts.map fun i => l.getD i default) a' w') (fun _ _ _ ⟨h1, h2⟩ => ⟨by rw [h1]; exact htail, h2⟩) _ _ _ _ hM
  have H := HS.lex (L := fun listed a' w' => tailB .any l.toArray ts listed = true ∧ wpList P l.toArray Q (ts.map fun i => l.getD i default) a' w') (md := .any) (F := 40) (front := hs) (ts := ts) (Region.noSelect_spec hsel) hQ hcov1 (fun listed a w ⟨h1, _⟩ => ready_tail h1) hS ms.length hs _ (Array.replicate l.toArray.size false) a (fun i hi => hi) (map_getD hs fun i hi => hlt1 i (by simp [hi])) headInv0 hhead hf (fun listed' e => by rw [e]; exact hM2)
  have hz := HS.any (Q := Q) (g := ts.length) (fun listed a' w' ⟨h1, h3⟩ => wpAny_tail ts _ listed a' w' (map_getD ts fun i hi => hlt1 i (by simp [hi])) h1 h3) (hs.length + ms.length) _ a _ H
  have e : hs.length + ms.length + ts.length = l.toArray.size := by
    have : l.toArray.size = l.length := by simp
    omega
  rw [e] at hz
  exact hz
/-- The append, as an operation. -/
theorem op_elemF {P : Program} {o : Oper} {a : Act} {w : World} {Q : Exit → Act → World → Prop} {K : Act → World → Prop} (s x : Operand) {t e : TypeId} {z : Value} {size bytes : Nat}
    (ht : P.underlying t = some (.slice e)) (hinfo : (P.info? e).map (fun i => (i.zero, i.size, i.bytes)) = some (some z, size, bytes)) (hz1 : z.cells.size = size) (hsz : 0 < size) (hb8 : bytes ≤ 1000)
    (ho : o.op = .call { callee := .builtin .append, args := #[s, x], argTypes := #[t, t] })
    (base : Nat) (v : Value) (n : Nat) (xs : List Value) (hs : a.eval s = v) (hown : w.ownsRow base e size v n xs)
    (ad : Addr) (ys : List Value) (hx : a.eval x = .slice (some ad) 1 1) (hl : ys.length = size) (hy : ∀ j u, ys[j]? = some u → w.cell? (ad.add j) = some u) (hy1 : ∀ u ∈ ys, u.oneCell' = true) (hn : n ≤ 10000000000) (hbase : base ≤ w.heap.size)
    (h : ∀ v' w', w'.ownsRow base e size v' (n + 1) (xs ++ ys) → w.grownBy w' v.ownBlock → (∀ k, v'.ownBlock = some k → v.ownBlock = some k ∨ w.heap.size ≤ k) → K (a.put o.dst v') w') : o.wp P a w K Q := by
  obtain ⟨i0, hi, hz0, hzz, hz2⟩ := info_parts hinfo
  have hm : (n + 1) * bytes ≤ 140737488355328 := by
    have := Nat.mul_le_mul_left (n + 1) hb8
    omega
  obtain ⟨v', w', hrun, r1, r2, r3⟩ := run_append_freshS (P := P) w base t o.type e i0 z size bytes ht hi hz0 hzz hz2 hz1 hsz v n xs hown ad 1 ys hl hy hy1 (by unfold maxLen; omega) hm hbase
  unfold Oper.wp execOp
  simp only [ho, resolve, invoke, builtin, Sem.run_bind, Sem.run_pure, Result.andThen_ok, List.map_toArray, List.map_cons, List.map_nil, hs, hx, hrun]
  exact h v' w' r1 r2 r3
end Go.Proofs.Ytaoddenadfmdbaa

/- UTIL: a region that draws its order: reads at any time, operations that write in a forced order, again reads at any time, then a tail. -/
namespace Go.Proofs.Ytaoddenadfmdbaa
open Go.RowKit
theorem inv_head {md : Region.Mode} {ops : Array Oper} : ∀ (hs : List Nat) (listed : Array Bool), (∀ i ∈ hs, i < ops.size) → HeadInv md ops ops.size listed → headB md ops hs listed = true → HeadInv md ops ops.size (listAll hs listed)
  | [], _, _, inv, _ => inv
  | i :: hs, listed, hlt, inv, hB => by
    simp only [headB, Bool.and_eq_true] at hB
    obtain ⟨⟨hr, _⟩, hB⟩ := hB
    have hr' : i ∈ Region.ready md ops listed := by simpa using hr
    exact inv_head hs _ (fun j hj => hlt j (by simp [hj])) (inv.set hr' (hlt i (by simp))) hB
theorem inv_mid {md : Region.Mode} {ops : Array Oper} : ∀ (ms : List Nat) (listed : Array Bool), (∀ i ∈ ms, i < ops.size) → HeadInv md ops ops.size listed → midB md ops ms listed = true → HeadInv md ops ops.size (listAll ms listed)
  | [], _, _, inv, _ => inv
  | i :: ms, listed, hlt, inv, hB => by
    simp only [midB, Bool.and_eq_true, decide_eq_true_eq] at hB
    have hr' : i ∈ Region.ready md ops listed := by rw [hB.1]; simp
    exact inv_mid ms _ (fun j hj => hlt j (by simp [hj])) (inv.set hr' (hlt i (by simp))) hB.2
def callB2 (l : List Oper) (hs ms hs2 ts : List Nat) : Bool :=
  Region.noSelect l.toArray && headB .any l.toArray hs (Array.replicate l.toArray.size false) && midB .any l.toArray ms (listAll hs (Array.replicate l.toArray.size false)) && headB .any l.toArray hs2 (listAll ms (listAll hs (Array.replicate l.toArray.size false))) && tailB .any l.toArray ts (listAll hs2 (listAll ms (listAll hs (Array.replicate l.toArray.size false)))) &&
  (ts.all fun t => (hs ++ hs2).all fun x => covers .any l.toArray 40 t x) && ((hs ++ (ms ++ (hs2 ++ ts))).all fun i => decide (i < l.length)) && decide (hs.length + (ms.length + (hs2.length + ts.length)) = l.length)
theorem region_call2 {P : Program} {l : List Oper} {id : Nat} {w : World} {Q : Exit → Act → World → Prop} {a : Act} (hs ms hs2 ts : List Nat) (S : World → Prop) (hm : P.follows .mixedOrders = true) (hB : callB2 l hs ms hs2 ts = true) (hQ : ∀ (d : Option Tmp) v c a w, Q (.panic c) (Act.put a d v) w → Q (.panic c) a w) (hS : S w.drew)
    (h : ∃ aF : Act, wpFl P l.toArray S (hs.map fun i => l.getD i default) a aF ∧ wpMid P Q S (fun a' w' => S w' ∧ ∃ aF2 : Act, wpFl P l.toArray S (hs2.map fun i => l.getD i default) a' aF2 ∧ wpList P l.toArray Q (ts.map fun i => l.getD i default) aF2 w') (ms.map fun i => l.getD i default) aF w.drew) : (Code.region id l.toArray true).wp P Q a w := by
  obtain ⟨aF, hf, hmid⟩ := h
  simp only [callB2, Bool.and_eq_true, decide_eq_true_eq] at hB
  obtain ⟨⟨⟨⟨⟨⟨⟨hsel, hhead⟩, hmb⟩, hhead2⟩, htail⟩, hcov⟩, hlt⟩, hlen⟩ := hB
  have hlt1 : ∀ i ∈ hs ++ (ms ++ (hs2 ++ ts)), i < l.length := fun i hi => by simpa using List.all_eq_true.1 hlt i hi
  have hcov1 : ∀ t ∈ ts, ∀ x ∈ hs ++ hs2, covers .any l.toArray 40 t x = true := fun t ht x hx => List.all_eq_true.1 (List.all_eq_true.1 hcov t ht) x hx
  refine wp_region_any hm ?_
  have hsz : l.toArray.size = l.length := by simp
  have inv1 := inv_head (md := .any) (ops := l.toArray) hs _ (fun i hi => by rw [hsz]; exact hlt1 i (by simp [hi])) headInv0 hhead
  have inv2 := inv_mid (md := .any) (ops := l.toArray) ms _ (fun i hi => by rw [hsz]; exact hlt1 i (by simp [hi])) inv1 hmb
  have hM := HS.mid (md := .any) (ops := l.toArray) ms _ (listAll hs (Array.replicate l.toArray.size false)) aF w.drew (map_getD ms fun i hi => hlt1 i (by simp [hi])) hmb hmid
  have hM2 := HS.congr (L' := HS P .any l.toArray Q S (fun listed' a' w' => tailB .any l.toArray ts listed' = true ∧ wpList P l.toArray Q (ts.map fun i => l.getD i default) a' w') (hs2.length + 0)) (fun listed a' w' ⟨e, hS2, aF2, hf2, ht2⟩ => by
    rw [e]
    exact HS.lex (L := fun listed' a' w' => tailB .any l.toArray ts listed' = true ∧ wpList P l.toArray Q (ts.map fun i => l.getD i default) a' w') (md := .any) (F := 40) (front := hs ++ hs2) (ts := ts) (Region.noSelect_spec hsel) hQ hcov1 (fun listed a w ⟨h1, _⟩ => ready_tail h1) hS2 0 hs2 _ _ a' (fun i hi => List.mem_append.2 (.inr hi)) (map_getD hs2 fun i hi => hlt1 i (by simp [hi])) inv2 hhead2 hf2 (fun listed' e => by rw [e]; exact ⟨htail, ht2⟩)) _ _ _ _ hM
  have hM3 := HS.split _ _ _ _ _ hM2
  have H := HS.lex (L := fun listed' a' w' => tailB .any l.toArray ts listed' = true ∧ wpList P l.toArray Q (ts.map fun i => l.getD i default) a' w') (md := .any) (F := 40) (front := hs ++ hs2) (ts := ts) (Region.noSelect_spec hsel) hQ hcov1 (fun listed a w ⟨h1, _⟩ => ready_tail h1) hS (ms.length + (hs2.length + 0)) hs _ (Array.replicate l.toArray.size false) a (fun i hi => List.mem_append.2 (.inl hi)) (map_getD hs fun i hi => hlt1 i (by simp [hi])) headInv0 hhead hf (fun listed' e => by rw [e]; exact hM3)
  have hz := HS.any (Q := Q) (g := ts.length) (fun listed a' w' ⟨h1, h3⟩ => wpAny_tail ts _ listed a' w' (map_getD ts fun i hi => hlt1 i (by simp [hi])) h1 h3) (hs.length + (ms.length + (hs2.length + 0))) _ a _ H
  have e : hs.length + (ms.length + (hs2.length + 0)) + ts.length = l.toArray.size := by omega
  rw [e] at hz
  exact hz
end Go.Proofs.Ytaoddenadfmdbaa
