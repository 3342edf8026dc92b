/- UTIL: a region that draws its order and holds operations that write (calls, appends): reads that may come at any time, the rest in a forced order. -/
import Derived.OrdersHeld
import Derived.Test.YtimblabaeclhpaaGreatGen
import Derived.Test.YtimblabaeclhpaaGreatApF
import Derived.Test.YtimblabaeclhpaaGreatGlyR
namespace Go.Proofs.YtimblabaeclhpaaGreat
open Go.RowKit
section
variable {P : Program} {ops : Array Oper} {md : Region.Mode} {Q : Exit → Act → World → Prop} {S : World → Prop}
/-- Whatever order is picked in the front; S holds behind every operation. -/
def HS (P : Program) (md : Region.Mode) (ops : Array Oper) (Q : Exit → Act → World → Prop) (S : World → Prop) (L : Array Bool → Act → World → Prop) : Nat → Array Bool → Act → World → Prop
  | 0, listed, a, w => L listed a w
  | f + 1, listed, a, w => Region.ready md ops listed ≠ [] ∧ ∀ i ∈ Region.ready md ops listed, wpOp P ops Q i (fun a' w' => S w' ∧ HS P md ops Q S L f (listed.setIfInBounds i true) a' w') a w
theorem HS.any {g : Nat} {L : Array Bool → Act → World → Prop} (hL : ∀ listed a w, L listed a w → wpAny P md ops Q g listed a w) :
    ∀ (f : Nat) (listed : Array Bool) (a : Act) (w : World), HS P md ops Q S L f listed a w → wpAny P md ops Q (f + g) listed a w
  | 0, listed, a, w, h => by rw [Nat.zero_add]; exact hL _ _ _ h
  | f + 1, listed, a, w, h => by
    have e : f + 1 + g = (f + g) + 1 := by omega
    rw [e]
    exact ⟨fun h0 => absurd h0 h.1, fun i hi => wpOp_mono (fun a' w' h' => HS.any hL f _ a' w' h'.2) (h.2 i hi)⟩
section
variable {F : Nat} {front ts : List Nat} {L : Array Bool → Act → World → Prop} (hsel : ∀ (j : Nat) (o : Oper) cs b, ops[j]? = some o → o.op ≠ .select cs b) (hQ : ∀ (d : Option Tmp) v c a w, Q (.panic c) (Act.put a d v) w → Q (.panic c) a w)
  (hcov : ∀ t ∈ ts, ∀ x ∈ front, covers md ops F t x = true) (hdone : ∀ listed a w, L listed a w → ∀ j ∈ Region.ready md ops listed, j ∈ ts)
include hsel hQ hcov hdone
theorem HS.first {i : Nat} {oi : Oper} {v : Value} (hi : ops[i]? = some oi) (hin : i ∈ front) : ∀ (f : Nat) (listed : Array Bool) (a : Act) (w : World), HeadInv md ops ops.size listed →
      (∀ j oj, ops[j]? = some oj → j ≠ i → listed.getD j true = false → (∀ e ∈ oj.after, Region.binds md e = true → e.on ≠ i) → oi.apart ops oj = true) →
      i ∈ Region.ready md ops listed → YieldsIf P ops S oi v a → S w → HS P md ops Q S L f (listed.setIfInBounds i true) (a.put oi.dst v) w → HS P md ops Q S L (f + 1) listed a w := by
  intro f
  have ne : ∀ (listed : Array Bool), i ∈ Region.ready md ops listed → Region.ready md ops listed ≠ [] := fun listed hr h => by rw [h] at hr; cases hr
  induction f with
  | zero =>
    intro listed a w inv _ hr hy hS H
    refine ⟨ne _ hr, fun j hj => ?_⟩
    by_cases hji : j = i
    · subst hji; exact hy.wpOp hi hS ⟨hS, H⟩
    · have h1 := hdone _ _ _ H j (ready_mono hj hji)
      exact absurd hj (no_tail inv (hcov j h1 i hin) (getD_both (mem_ready.1 hr).1))
  | succ f ih =>
    intro listed a w inv hfree hr hy hS H
    refine ⟨ne _ hr, fun j hj => ?_⟩
    by_cases hji : j = i
    · subst hji; exact hy.wpOp hi hS ⟨hS, H⟩
    · have h1 := H.2 j (ready_mono hj hji)
      obtain ⟨hjun, oj, hoj, hall⟩ := mem_ready.1 hj
      have hjn : j < ops.size := (Array.getElem?_eq_some_iff.1 hoj).1
      have hun := getD_both (mem_ready.1 hr).1
      have hnot : ∀ e ∈ oj.after, Region.binds md e = true → e.on ≠ i := fun e he hb heq => by
        have h3 := hall e he hb
        rw [heq, hun] at h3
        cases h3
      have h2 := wpOp_putIf hoj (hfree j oj hoj hji hjun hnot) (fun cs b => hsel i oi cs b hi) (fun cs b => hsel j oj cs b hoj) (hQ oi.dst v) hy h1
      refine wpOp_mono (fun a' w' h3 => ⟨h3.2.1, ih (listed.setIfInBounds j true) a' w' (inv.set hj hjn) (fun k ok hk hki hku hno => ?_) (ready_mono hr (Ne.symm hji)) h3.1 h3.2.1 ?_⟩) h2
      · have hku2 : listed.getD k true = false := by
          by_cases hjk : j = k
          · subst hjk; exact hjun
          · rw [getD_set_ne true hjk] at hku; exact hku
        exact hfree k ok hk hki hku2 hno
      · rw [Array.setIfInBounds_comm _ _ hji]
        exact h3.2.2
/-- The reads, taken first, one by one. -/
def wpFl (P : Program) (ops : Array Oper) (S : World → Prop) : List Oper → Act → Act → Prop
  | [], a, aF => a = aF
  | o :: r, a, aF => ∃ v, YieldsIf P ops S o v a ∧ wpFl P ops S r (a.put o.dst v) aF
theorem HS.lex {aF : Act} {w : World} (hS : S w) (g : Nat) : ∀ (hs : List Nat) (l : List Oper) (listed : Array Bool) (a : Act), (∀ i ∈ hs, i ∈ front) → hs.map (fun i => ops[i]?) = l.map some → HeadInv md ops ops.size listed → headB md ops hs listed = true → wpFl P ops S l a aF →
      (∀ listed', listed' = listAll hs listed → HS P md ops Q S L g listed' aF w) → HS P md ops Q S L (hs.length + g) listed a w
  | [], l, listed, a, _, hl, inv, _, h, hb => by
    cases l with
    | nil =>
      rw [List.length_nil, Nat.zero_add]
      have e : a = aF := h
      rw [e]
      exact hb listed rfl
    | cons o l => simp at hl
  | i :: hs, l, listed, a, hin, hl, inv, hB, h, hb => by
    cases l with
    | nil => simp at hl
    | cons o l =>
      simp only [List.map_cons, List.cons.injEq] at hl
      obtain ⟨ho, hl⟩ := hl
      simp only [headB, Bool.and_eq_true] at hB
      obtain ⟨⟨hr, hf⟩, hB⟩ := hB
      obtain ⟨v, hy, h⟩ := h
      have hr' : i ∈ Region.ready md ops listed := by simpa using hr
      have hlt : i < ops.size := (Array.getElem?_eq_some_iff.1 ho).1
      have e : (i :: hs).length + g = (hs.length + g) + 1 := by simp; omega
      rw [e]
      exact HS.first hsel hQ hcov hdone ho (hin i (by simp)) _ listed a w inv (Region.free_spec ho hf) hr' hy hS
        (HS.lex hS g hs l _ _ (fun j hj => hin j (by simp [hj])) hl (inv.set hr' hlt) hB h hb)
end
/-- The writers, in their forced order. -/
def wpMid (P : Program) (Q : Exit → Act → World → Prop) (S : World → Prop) (Lq : Act → World → Prop) : List Oper → Act → World → Prop
  | [], a, w => Lq a w
  | o :: r, a, w => o.guard = none ∧ o.wp P a w (fun a' w' => S w' ∧ wpMid P Q S Lq r a' w') Q
theorem wpMid_step {Lq : Act → World → Prop} {o : Oper} {r : List Oper} {a : Act} {w : World} (hg : o.guard = none) (h : ∀ K : Act → World → Prop, Hid (∀ a' w', S w' → wpMid P Q S Lq r a' w' → K a' w') → o.wp P a w K Q) : wpMid P Q S Lq (o :: r) a w :=
  ⟨hg, h _ (hid fun _ _ h1 h2 => ⟨h1, h2⟩)⟩
def midB (md : Region.Mode) (ops : Array Oper) : List Nat → Array Bool → Bool
  | [], _ => true
  | i :: r, listed => decide (Region.ready md ops listed = [i]) && midB md ops r (listed.setIfInBounds i true)
theorem HS.mid {Lq : Act → World → Prop} : ∀ (ms : List Nat) (l : List Oper) (listed : Array Bool) (a : Act) (w : World), ms.map (fun i => ops[i]?) = l.map some → midB md ops ms listed = true → wpMid P Q S Lq l a w →
    HS P md ops Q S (fun listed' a' w' => listed' = listAll ms listed ∧ Lq a' w') ms.length listed a w
  | [], l, listed, a, w, hl, _, h => by
    cases l with
    | nil => exact ⟨rfl, h⟩
    | cons o l => simp at hl
  | i :: ms, l, listed, a, w, hl, hB, h => by
    cases l with
    | nil => simp at hl
    | cons o l =>
      simp only [List.map_cons, List.cons.injEq] at hl
      obtain ⟨ho, hl⟩ := hl
      simp only [midB, Bool.and_eq_true, decide_eq_true_eq] at hB
      refine ⟨fun h1 => (by rw [hB.1] at h1; cases h1), fun j hj => ?_⟩
      rw [hB.1] at hj
      obtain rfl : j = i := by simpa using hj
      have hw : wpOp P ops Q j (fun a' w' => S w' ∧ wpMid P Q S Lq l a' w') a w := by
        unfold wpOp
        have hwt : Region.wanted o (yielded ops a.tmps) = true := by simp [Region.wanted, h.1]
        simp only [ho, hwt, if_true]
        exact .inl h.2
      exact wpOp_mono (fun a' w' h' => ⟨h'.1, HS.mid ms l _ a' w' hl hB.2 h'.2⟩) hw
end
def callB (l : List Oper) (hs ms ts : List Nat) : Bool :=
  Region.noSelect l.toArray && headB .any l.toArray hs (Array.replicate l.toArray.size false) && midB .any l.toArray ms (listAll hs (Array.replicate l.toArray.size false)) && tailB .any l.toArray ts (listAll ms (listAll hs (Array.replicate l.toArray.size false))) &&
  (ts.all fun t => hs.all fun x => covers .any l.toArray 40 t x) && ((hs ++ (ms ++ ts)).all fun i => decide (i < l.length)) && decide (hs.length + (ms.length + ts.length) = l.length)
theorem HS.congr {P : Program} {md : Region.Mode} {ops : Array Oper} {Q : Exit → Act → World → Prop} {S : World → Prop} {L L' : Array Bool → Act → World → Prop} (h : ∀ l a w, L l a w → L' l a w) : ∀ (f : Nat) (listed : Array Bool) (a : Act) (w : World), HS P md ops Q S L f listed a w → HS P md ops Q S L' f listed a w
  | 0, _, _, _, H => h _ _ _ H
  | f + 1, _, _, _, H => ⟨H.1, fun i hi => wpOp_mono (fun _ _ h' => ⟨h'.1, HS.congr h f _ _ _ h'.2⟩) (H.2 i hi)⟩
theorem HS.split {P : Program} {md : Region.Mode} {ops : Array Oper} {Q : Exit → Act → World → Prop} {S : World → Prop} {L : Array Bool → Act → World → Prop} : ∀ (f g : Nat) (listed : Array Bool) (a : Act) (w : World), HS P md ops Q S (HS P md ops Q S L g) f listed a w → HS P md ops Q S L (f + g) listed a w
  | 0, g, _, _, _, H => by rw [Nat.zero_add]; exact H
  | f + 1, g, _, _, _, H => by
    rw [show f + 1 + g = (f + g) + 1 by omega]
    exact ⟨H.1, fun i hi => wpOp_mono (fun _ _ h' => ⟨h'.1, HS.split f g _ _ _ h'.2⟩) (H.2 i hi)⟩
/-- THE LAW: reads that may come at any time, writers in a forced order, then a tail. -/
theorem region_call {P : Program} {l : List Oper} {id : Nat} {w : World} {Q : Exit → Act → World → Prop} {a : Act} (hs ms ts : List Nat) (S : World → Prop) (hm : P.follows .mixedOrders = true) (hB : callB l hs ms ts = true) (hQ : ∀ (d : Option Tmp) v c a w, Q (.panic c) (Act.put a d v) w → Q (.panic c) a w) (hS : S w.drew)
    (h : ∃ aF : Act, wpFl P l.toArray S (hs.map fun i => l.getD i default) a aF ∧ wpMid P Q S (fun a' w' => wpList P l.toArray Q (ts.map fun i => l.getD i default) a' w') (ms.map fun i => l.getD i default) aF w.drew) : (Code.region id l.toArray true).wp P Q a w := by
  obtain ⟨aF, hf, hmid⟩ := h
  simp only [callB, Bool.and_eq_true, decide_eq_true_eq] at hB
  obtain ⟨⟨⟨⟨⟨⟨hsel, hhead⟩, hmb⟩, htail⟩, hcov⟩, hlt⟩, hlen⟩ := hB
  have hlt1 : ∀ i ∈ hs ++ (ms ++ ts), i < l.length := fun i hi => by simpa using List.all_eq_true.1 hlt i hi
  have hcov1 : ∀ t ∈ ts, ∀ x ∈ hs, covers .any l.toArray 40 t x = true := fun t ht x hx => List.all_eq_true.1 (List.all_eq_true.1 hcov t ht) x hx
  refine wp_region_any hm ?_
  have hM := HS.mid (md := .any) (ops := l.toArray) ms _ (listAll hs (Array.replicate l.toArray.size false)) aF w.drew (map_getD ms fun i hi => hlt1 i (by simp [hi])) hmb hmid
  have hM2 := HS.congr (L := fun listed a' w' => listed = listAll ms (listAll hs (Array.replicate l.toArray.size false)) ∧ wpList P l.toArray Q (ts.map fun i => l.getD i default) a' w') (L' := fun listed a' w' => tailB .any l.toArray ts listed = true ∧ wpList P l.toArray Q (ts.map fun i => l.getD i default) a' w') (fun _ _ _ ⟨h1, h2⟩ => ⟨by rw [h1]; exact htail, h2⟩) _ _ _ _ hM
  have H := HS.lex (L := fun listed a' w' => tailB .any l.toArray ts listed = true ∧ wpList P l.toArray Q (ts.map fun i => l.getD i default) a' w') (md := .any) (F := 40) (front := hs) (ts := ts) (Region.noSelect_spec hsel) hQ hcov1 (fun listed a w ⟨h1, _⟩ => ready_tail h1) hS ms.length hs _ (Array.replicate l.toArray.size false) a (fun i hi => hi) (map_getD hs fun i hi => hlt1 i (by simp [hi])) headInv0 hhead hf (fun listed' e => by rw [e]; exact hM2)
  have hz := HS.any (Q := Q) (g := ts.length) (fun listed a' w' ⟨h1, h3⟩ => wpAny_tail ts _ listed a' w' (map_getD ts fun i hi => hlt1 i (by simp [hi])) h1 h3) (hs.length + ms.length) _ a _ H
  have e : hs.length + ms.length + ts.length = l.toArray.size := by
    have : l.toArray.size = l.length := by simp
    omega
  rw [e] at hz
  exact hz
/-- The append, as an operation. -/
theorem op_elemF {P : Program} {o : Oper} {a : Act} {w : World} {Q : Exit → Act → World → Prop} {K : Act → World → Prop} (s x : Operand) {t e : TypeId} {z : Value} {size bytes : Nat}
    (ht : P.underlying t = some (.slice e)) (hinfo : (P.info? e).map (fun i => (i.zero, i.size, i.bytes)) = some (some z, size, bytes)) (hz1 : z.cells.size = size) (hsz : 0 < size) (hb8 : bytes ≤ 1000)
    (ho : o.op = .call { callee := .builtin .append, args := #[s, x], argTypes := #[t, t] })
    (base : Nat) (v : Value) (n : Nat) (xs : List Value) (hs : a.eval s = v) (hown : w.ownsRow base e size v n xs)
    (ad : Addr) (ys : List Value) (hx : a.eval x = .slice (some ad) 1 1) (hl : ys.length = size) (hy : ∀ j u, ys[j]? = some u → w.cell? (ad.add j) = some u) (hy1 : ∀ u ∈ ys, u.oneCell' = true) (hn : n ≤ 10000000000) (hbase : base ≤ w.heap.size)
    (h : ∀ v' w', w'.ownsRow base e size v' (n + 1) (xs ++ ys) → w.grownBy w' v.ownBlock → (∀ k, v'.ownBlock = some k → v.ownBlock = some k ∨ w.heap.size ≤ k) → K (a.put o.dst v') w') : o.wp P a w K Q := by
  obtain ⟨i0, hi, hz0, hzz, hz2⟩ := info_parts hinfo
  have hm : (n + 1) * bytes ≤ 140737488355328 := by
    have := Nat.mul_le_mul_left (n + 1) hb8
    omega
  obtain ⟨v', w', hrun, r1, r2, r3⟩ := run_append_freshS (P := P) w base t o.type e i0 z size bytes ht hi hz0 hzz hz2 hz1 hsz v n xs hown ad 1 ys hl hy hy1 (by unfold maxLen; omega) hm hbase
  unfold Oper.wp execOp
  simp only [ho, resolve, invoke, builtin, Sem.run_bind, Sem.run_pure, Result.andThen_ok, List.map_toArray, List.map_cons, List.map_nil, hs, hx, hrun]
  exact h v' w' r1 r2 r3
end Go.Proofs.YtimblabaeclhpaaGreat

/- WALK: the reader's over. -/
namespace Go.Proofs.YtimblabaeclhpaaGreat
open Go.RowKit
/-- What a reading of an item does that tells whether it stood in parentheses. -/
def OvP (s : ByteArray) (rb : Nat) (w : World) (r : PR (Itm × Bool)) (e : Ending) (w' : World) : Prop := (match r with
  | .bad q => e = wrongP q ∧ Rdr w' rb s q
  | .ok x q => ∃ v, e = .returned (.tuple #[ivA v, .bool x.2]) ∧ ItX 1 w.heap.size [] w' v x.1 ∧ Rdr w' rb s q) ∧ Kp rb w w'
theorem OvP.bad {s : ByteArray} {rb q : Nat} {w w' : World} {r : PR (Itm × Bool)} {e : Ending} (hr : r = .bad q) (he : e = wrongP q) (h : Rdr w' rb s q) (hk : Kp rb w w') : OvP s rb w r e w' := by
  subst hr; exact ⟨⟨he, h⟩, hk⟩
theorem OvP.ok {s : ByteArray} {rb q : Nat} {w w' : World} {r : PR (Itm × Bool)} {x : Itm} {sh : Bool} {v : Iv} {e : Ending} (hr : r = .ok (x, sh) q) (he : e = .returned (.tuple #[ivA v, .bool sh])) (hx : ItX 1 w.heap.size [] w' v x) (h : Rdr w' rb s q) (hk : Kp rb w w') : OvP s rb w r e w' := by
  subst hr; exact ⟨⟨v, he, hx, h⟩, hk⟩
set_option maxRecDepth 100000 in
set_option maxHeartbeats 4000000 in
theorem over_anyR (ab : AbF) (rb : Nat) (s : ByteArray) (p : Nat) (w : World) (h : Rdr w rb s p) (hp : p ≤ s.size) (hs : s.size ≤ 1000000)
    (hab : ∀ (q : Nat) (wi : Bool) (W : World), p < q → q ≤ s.size → Rdr W rb s q → Calls Tryz.prog 102 #[.pointer (some ⟨rb, 0, none⟩), .bool wi] W (ItP s rb W (ab q wi))) (hfw : ∀ w, FwF s fun p => ab p w) :
    Calls Tryz.prog 106 #[.pointer (some ⟨rb, 0, none⟩)] w (OvP s rb w (overP s ab p)) := by
  obtain ⟨W1, hW1⟩ : ∃ W1, W1 = w.alloc (.cells #[.int .i64 0, .int .i64 0, .int .i64 0, .int .i64 0, .bool false, .int .i64 0, .int .i64 0, .int .i64 0, .string ⟨#[]⟩, .int .i64 0, .slice none 0 0] 93) := ⟨_, rfl⟩
  have HB := hid (show Below w.heap.size w W1 by rw [hW1]; exact (Below.refl _ _).alloc (Nat.le_refl _) _)
  have HR := hid (h.keep HB.out)
  have H0 := hid (show ItB W1 w.heap.size iv0 by rw [hW1]; exact nwB rfl)
  have HK := hid (show Kp rb w W1 from Kp.of_below HB.out)
  have hlt := h.lt
  have hz : w.heap.size < W1.heap.size := by rw [hW1]; simp
  have hIS := is_any rb s p 40 W1 HR.out hp hs (by decide)
  have HMU := hid fun (q : Nat) (c : Int) (W : World) (h : Rdr W rb s q) (hq : q ≤ s.size) (hc : 0 < c) => must_any rb s q c W h hq hs hc
  have HIS := hid fun (q : Nat) (c : Int) (W : World) (h : Rdr W rb s q) (hq : q ≤ s.size) (hc : 0 < c) => is_any rb s q c W h hq hs hc
  have HLF := hid fun (q : Nat) (W : World) (h : Rdr W rb s q) (hq : q ≤ s.size) => leaf_anyR rb s q W h hq hs
  have HAB := hid hab
  have HFW := hid hfw
  have HW1 := hid hW1
  clear h hW1 hab hfw hs
  go_enter Tryz.func106, Tryz.ntmps106
  go_upto_region 1 with (fail)
  rw [← HW1.out]
  clear HW1
  obtain ⟨a0, ha0⟩ : ∃ a, a = w.heap.size := ⟨_, rfl⟩
  rw [← ha0] at H0 hz hlt
  rw [← ha0]
  have HNE0 := hid (show a0 ≠ rb by omega)
  have HA0 := hid (show w.heap.size ≤ a0 by omega)
  clear ha0 hlt hz
  by_cases hg : byt s p = 40
  · have hps : p < s.size := byt_in hg (by decide)
    have HX := hid (show overP s ab p = _ from if_pos hg)
    rw [show decide (byt s p = 40) = true from decide_eq_true hg, show isQ s 40 p = p + 1 from if_pos hg] at hIS
    have HA := hid fun (W : World) (h : Rdr W rb s (p + 1)) => HAB.out (p + 1) true W (Nat.lt_succ_self p) hps h
    have hf := HFW.out true (p + 1)
    unfold ItP at HA
    clear hg HLF HIS HAB HFW hp
    cases hd : ab (p + 1) true with
    | bad e0 =>
      rw [hd] at HA HX
      clear hd hf
      go_wp2_with (first | (go_at_call 99; refine hIS.mono ?_; rintro e w2 ⟨rfl, h2, k2⟩; have H2 := hid h2; have K2 := hid (HK.out.trans k2); clear h2 k2 hIS) | (go_at_call 102; refine (HA.out _ H2.out).mono ?_; rintro e w3 ⟨⟨rfl, h3⟩, k3⟩; unfold wrongP; have H3 := hid h3; have K3 := hid (K2.out.trans k3); clear h3 k3))
      exact ⟨rfl, OvP.bad HX.out rfl H3.out K3.out⟩
    | ok x q =>
      simp only [hd] at hf
      rw [hd] at HA HX
      have hqs : q ≤ s.size := hf.2
      clear hd hf
      go_upto_region 3 with (first | (go_at_call 99; refine hIS.mono ?_; rintro e w2 ⟨rfl, h2, k2⟩; have H2 := hid h2; have K2 := hid (HK.out.trans k2); have A2 := hid (H0.out.kp k2 HNE0.out); clear h2 k2 hIS) | (go_at_call 102; refine (HA.out _ H2.out).mono ?_; rintro e w3 ⟨⟨u, rfl, hx, h3⟩, k3⟩; have H3 := hid h3; have K3 := hid (K2.out.trans k3); have HX3 := hid hx; have A3 := hid (A2.out.kp k3 HNE0.out); have HSZ := hid A2.out.lt; clear h3 k3 hx) | (refine wp_store_it rfl (.tmp 2) (.tmp 7) rfl a0 iv0 u rfl rfl A3.out ?_; intro wz hz gz))
      have H4 := hid (kp_rdr H3.out gz HNE0.out); have K4 := hid (kp_new K3.out gz HA0.out); have A4 := hid hz
      have HX4 := hid (show ItX 1 w.heap.size [] wz u x from HX3.out.ret gz HSZ.out (Nat.le_of_lt (Nat.lt_of_le_of_lt HA0.out HSZ.out)))
      have HX4' := hid (show ItX 1 w2.heap.size [] wz u x from HX3.out.grown gz fun r e => by injection e with e; subst e; exact .inl HSZ.out)
      clear hz gz H3 K3 A3 HX3
      have hmu := HMU.out q 41 wz H4.out hqs (by decide)
      by_cases h41 : byt s q = 41
      rotate_left
      · simp only [if_neg h41] at hmu
        have HX2 := hid (show overP s ab p = .bad q by rw [HX.out]; simp only [if_neg h41])
        clear h41
        go_wp2_with (first | (go_at_call 101; refine hmu.mono ?_; rintro e w5 ⟨⟨rfl, h5⟩, k5⟩; unfold wrongP; have H5 := hid h5; have K5 := hid (K4.out.trans k5); clear h5 k5 hmu))
        exact ⟨rfl, OvP.bad HX2.out rfl H5.out K5.out⟩
      · simp only [if_pos h41] at hmu
        have HX2 := hid (show overP s ab p = .ok (x, true) (q + 1) by rw [HX.out]; simp only [if_pos h41])
        clear h41
        go_wp2_with (first | (go_at_call 101; refine hmu.mono ?_; rintro e w5 ⟨⟨rfl, h5⟩, k5⟩; have H5 := hid h5; have K5 := hid (K4.out.trans k5); have A5 := hid (A4.out.kp k5 HNE0.out); have HX5 := hid (HX4'.out.kp k5 (Nat.lt_of_lt_of_le H2.out.lt (Nat.le_refl _))); clear h5 k5 hmu) | (refine wp_load_it rfl (.tmp 2) rfl a0 0 u rfl A5.out.range ?_) | (refine wp_store_it rfl (.tmp 2) (.tmp 10) rfl a0 u u rfl rfl A5.out ?_; intro wz2 hz gz))
        have hc := hz.cells
        have k0 := hc.k0; have k1 := hc.k1; have k2 := hc.k2; have k3 := hc.k3; have k4 := hc.k4; have k5 := hc.k5; have k6 := hc.k6; have k7 := hc.k7; have k8 := hc.k8; have k9 := hc.k9; have k10 := hc.k10
        refine bodyPost_ret (v := .tuple #[ivA u, .bool true]) (by simp [results, Tryz.results106, go_sem, k0, k1, k2, k3, k4, k5, k6, k7, k8, k9, k10, ivA]) rfl ?_
        exact OvP.ok HX2.out rfl (HX5.out.ret gz HSZ.out (Nat.le_of_lt (Nat.lt_of_le_of_lt HA0.out HSZ.out))) (kp_rdr H5.out gz HNE0.out) (kp_new K5.out gz HA0.out)
  · have HX := hid (show overP s ab p = _ from if_neg hg)
    rw [show decide (byt s p = 40) = false from decide_eq_false hg, show isQ s 40 p = p from if_neg hg] at hIS
    have HL := hid fun (W : World) (h : Rdr W rb s p) => HLF.out p W h hp
    have hf := leaf_fwd (s := s) (p := p)
    unfold ItP at HL
    clear hg HAB HFW HMU
    cases hd : leafP s p with
    | bad e0 =>
      rw [hd] at HL HX
      clear hd hf
      go_wp2_with (first | (go_at_call 99; refine hIS.mono ?_; rintro e w2 ⟨rfl, h2, k2⟩; have H2 := hid h2; have K2 := hid (HK.out.trans k2); clear h2 k2 hIS) | (go_at_call 107; refine (HL.out _ H2.out).mono ?_; rintro e w3 ⟨⟨rfl, h3⟩, k3⟩; unfold wrongP; have H3 := hid h3; have K3 := hid (K2.out.trans k3); clear h3 k3))
      exact ⟨rfl, OvP.bad HX.out rfl H3.out K3.out⟩
    | ok x q =>
      rw [hd] at HL HX hf
      have hqs : q ≤ s.size := hf.2
      clear hd hf
      go_upto_region 6 with (first | (go_at_call 99; refine hIS.mono ?_; rintro e w2 ⟨rfl, h2, k2⟩; have H2 := hid h2; have K2 := hid (HK.out.trans k2); have A2 := hid (H0.out.kp k2 HNE0.out); clear h2 k2 hIS) | (go_at_call 107; refine (HL.out _ H2.out).mono ?_; rintro e w3 ⟨⟨u, rfl, hx, h3⟩, k3⟩; have H3 := hid h3; have K3 := hid (K2.out.trans k3); have HX3 := hid hx; have A3 := hid (A2.out.kp k3 HNE0.out); have HSZ := hid A2.out.lt; have HKS := hid k3.size; clear h3 k3 hx) | (refine wp_store_it rfl (.tmp 2) (.tmp 12) rfl a0 iv0 u rfl rfl A3.out ?_; intro wz hz gz))
      have H4 := hid (kp_rdr H3.out gz HNE0.out); have K4 := hid (kp_new K3.out gz HA0.out); have A4 := hid hz
      have HX4 := hid (show ItX 1 w2.heap.size [] wz u x from HX3.out.grown gz fun r e => by injection e with e; subst e; exact .inl HSZ.out)
      have HZ4 := hid (show w2.heap.size ≤ wz.heap.size from Nat.le_trans HKS.out gz.size)
      clear hz gz H3 K3 A3 HX3
      have hIT := HIS.out q 38 wz H4.out hqs (by decide)
      by_cases h38 : byt s q = 38
      rotate_left
      · rw [show decide (byt s q = 38) = false from decide_eq_false h38, show isQ s 38 q = q from if_neg h38] at hIT
        have HX2 := hid (show overP s ab p = .ok (x, false) q by rw [HX.out]; simp only [if_neg h38])
        clear h38
        go_wp2_with (first | (go_at_call 99; refine hIT.mono ?_; rintro e w5 ⟨rfl, h5, k5⟩; have H5 := hid h5; have K5 := hid (K4.out.trans k5); have A5 := hid (A4.out.kp k5 HNE0.out); have HX5 := hid (HX4.out.kp k5 H2.out.lt); clear h5 k5 hIT) | (refine wp_load_it rfl (.tmp 2) rfl a0 0 u rfl A5.out.range ?_) | (refine wp_store_it rfl (.tmp 2) (.tmp 21) rfl a0 u u rfl rfl A5.out ?_; intro wz2 hz gz))
        have hc := hz.cells
        have k0 := hc.k0; have k1 := hc.k1; have k2 := hc.k2; have k3 := hc.k3; have k4 := hc.k4; have k5 := hc.k5; have k6 := hc.k6; have k7 := hc.k7; have k8 := hc.k8; have k9 := hc.k9; have k10 := hc.k10
        refine bodyPost_ret (v := .tuple #[ivA u, .bool false]) (by simp [results, Tryz.results106, go_sem, k0, k1, k2, k3, k4, k5, k6, k7, k8, k9, k10, ivA]) rfl ?_
        exact OvP.ok HX2.out rfl (HX5.out.ret gz HSZ.out (Nat.le_of_lt (Nat.lt_of_le_of_lt HA0.out HSZ.out))) (kp_rdr H5.out gz HNE0.out) (kp_new K5.out gz HA0.out)
      · rw [show decide (byt s q = 38) = true from decide_eq_true h38, show isQ s 38 q = q + 1 from if_pos h38] at hIT
        have hx2 := HX.out
        simp only [if_pos h38] at hx2
        have HX2 := hid hx2
        have hq1 : q < s.size := byt_in h38 (by decide)
        have HL2 := hid fun (W : World) (h : Rdr W rb s (q + 1)) => HLF.out (q + 1) W h hq1
        unfold ItP at HL2
        clear h38 hx2 HX HL HLF HIS
        go_upto_region 7 with (first | (go_at_call 99; refine hIT.mono ?_; rintro e w5 ⟨rfl, h5, k5⟩; have H5 := hid h5; have K5 := hid (K4.out.trans k5); have A5 := hid (A4.out.kp k5 HNE0.out); have HX5 := hid (HX4.out.kp k5 H2.out.lt); have HZ5 := hid (Nat.le_trans HZ4.out k5.size); clear h5 k5 hIT))
        refine region_call [0, 1, 2] [3, 4] [5, 6] (fun W => ItB W a0 u) (by kernel_rfl) (by kernel_rfl) (fun d _ _ _ _ h => by cases d <;> exact h) A5.out ?_
        apply Exists.intro
        simp only [List.map_cons, List.map_nil, List.getD_cons_zero, List.getD_cons_succ]
        refine ⟨⟨_, Or.inl ⟨by rfl, fun W hW => by go_simp; rfl⟩, _, yieldsIf_load_mid (by rfl) _ _ rfl a0 0 rfl (ivC u) _ (fun W hW => ItB.range hW) Tryz.underItem (by kernel_rfl) (by kernel_rfl), _, Or.inl ⟨by rfl, fun W hW => by go_simp; rfl⟩, rfl⟩, ?_⟩
        simp only [Act.put, List.setIfInBounds_toArray, List.set_cons_zero, List.set_cons_succ]
        have hR5 : Rdr w5.drew rb s (q + 1) := H5.out
        have hA5 : ItB w5.drew a0 u := A5.out
        have hK5 : Kp rb w w5.drew := K5.out.drew
        have hX5 : ItX 1 w2.heap.size [] w5.drew u x := HX5.out.kp ((Kp.refl rb w5).drew) H2.out.lt
        obtain ⟨w6, hw6⟩ : ∃ W, W = w5.drew := ⟨_, rfl⟩
        have hZ6 : w2.heap.size ≤ w6.heap.size := by rw [hw6]; exact HZ5.out
        rw [← hw6] at hR5 hA5 hK5 hX5
        rw [← hw6]
        have HR6 := hid hR5; have HA6 := hid hA5; have HK6 := hid hK5; have HX6 := hid hX5; have HZ6 := hid hZ6
        clear hw6 hR5 hA5 hK5 hX5 hZ6 H5 A5 K5 HX5 HZ5
        cases hd : leafP s (q + 1) with
        | bad e0 =>
          rw [hd] at HL2 HX2
          clear hd
          refine wpMid_step rfl (fun K hK => ?_)
          go_simp
          go_wp2_with (first | (go_at_call 107; refine (HL2.out _ HR6.out).mono ?_; rintro e w7 ⟨⟨rfl, h7⟩, k7⟩; unfold wrongP; have H7 := hid h7; have K7 := hid (HK6.out.trans k7); clear h7 k7))
          exact ⟨rfl, OvP.bad HX2.out rfl H7.out K7.out⟩
        | ok y q2 =>
          rw [hd] at HL2 HX2
          clear hd
          refine wpMid_step rfl (fun K hK => ?_)
          go_simp
          go_wp2_with (first | (go_at_call 107; refine (HL2.out _ HR6.out).mono ?_; rintro e w7 ⟨⟨u2, rfl, hy, h7⟩, k7⟩; have H7 := hid h7; have K7 := hid (HK6.out.trans k7); have A7 := hid (HA6.out.kp k7 HNE0.out); have HX7 := hid (HX6.out.kp k7 H2.out.lt); have HY7 := hid hy; have HZ7 := hid k7.size; clear h7 k7 hy))
          refine hK.out _ _ A7.out ?_
          clear hK K
          simp only [ivC, ivA]
          refine wpMid_step rfl (fun K hK => ?_)
          go_simp
          obtain ⟨g, hg⟩ : ∃ g, g = w7.heap.size := ⟨_, rfl⟩
          obtain ⟨w8, hw8⟩ : ∃ W, W = w7.alloc (.cells (ivC u ++ ivC u2).toArray 93) := ⟨_, rfl⟩
          have hks : Ks 1 w2.heap.size [] w8 (some ⟨g, 0, none⟩) 2 2 [x, y] := by
            rw [hw8]
            exact Ks.start2 HX7.out (HY7.out.more HZ6.out (by simp)) (Nat.le_trans HZ6.out HZ7.out) hg (by simp)
          have HN8 := hid (hks.node (k := 4) (by decide))
          have H8 := hid (show Rdr w8 rb s q2 by rw [hw8]; exact H7.out.keep ((Below.refl _ _).alloc (Nat.le_refl _) _))
          have A8 := hid (show ItB w8 a0 u by rw [hw8]; exact A7.out.alloc _)
          have K8 := hid (show Kp rb w w8 by rw [hw8]; exact K7.out.alloc _)
          simp only [ivC, List.cons_append, List.nil_append] at hw8
          rw [← hg, ← hw8]
          clear hw8 hg hks H7 A7 K7 HX7 HY7 HZ7
          refine hK.out _ _ A8.out ?_
          clear hK K
          simp only [wpMid]
          go_wp2_with (first | (refine wp_store_it rfl (.tmp 2) (.tmp 20) rfl a0 u ⟨kN 4, ⟨#[]⟩, 0, some ⟨g, 0, none⟩, 2, 2⟩ rfl rfl A8.out ?_; intro wa ha ga) | (refine wp_load_it rfl (.tmp 2) rfl a0 0 ⟨kN 4, ⟨#[]⟩, 0, some ⟨g, 0, none⟩, 2, 2⟩ rfl ha.range ?_) | (refine wp_store_it rfl (.tmp 2) (.tmp 21) rfl a0 ⟨kN 4, ⟨#[]⟩, 0, some ⟨g, 0, none⟩, 2, 2⟩ ⟨kN 4, ⟨#[]⟩, 0, some ⟨g, 0, none⟩, 2, 2⟩ rfl rfl ha ?_; intro wz2 hz gz))
          have hc := hz.cells
          have k0 := hc.k0; have k1 := hc.k1; have k2 := hc.k2; have k3 := hc.k3; have k4 := hc.k4; have k5 := hc.k5; have k6 := hc.k6; have k7 := hc.k7; have k8 := hc.k8; have k9 := hc.k9; have k10 := hc.k10
          refine bodyPost_ret (v := .tuple #[ivA ⟨kN 4, ⟨#[]⟩, 0, some ⟨g, 0, none⟩, 2, 2⟩, .bool false]) (by simp [results, Tryz.results106, go_sem, k0, k1, k2, k3, k4, k5, k6, k7, k8, k9, k10, ivA]) rfl ?_
          refine OvP.ok HX2.out rfl (((HN8.out.grown ga fun r e => by injection e with e; subst e; exact .inl HSZ.out).ret gz HSZ.out (Nat.le_of_lt (Nat.lt_of_le_of_lt HA0.out HSZ.out)))) (kp_rdr (kp_rdr H8.out ga HNE0.out) gz HNE0.out) (kp_new (kp_new K8.out ga HA0.out) gz HA0.out)
end Go.Proofs.YtimblabaeclhpaaGreat

/- WALK: one: a node with kids, or its only kid. -/
namespace Go.Proofs.YtimblabaeclhpaaGreat
open Go.RowKit
theorem ItX.under {N : Int} {n0 : Nat} {Lx : List Nat} {W W' : World} {v : Iv} {x : Itm} (h : ItX N n0 Lx W v x) (hb : Below W.heap.size W W') : ItX N n0 Lx W' v x := h.grown (grown_of_below hb) (fun r e => by cases e)
theorem Ks.under {N : Int} {n0 : Nat} {Lx : List Nat} {W W' : World} {A : Option Addr} {m c : Nat} {ks : List Itm} (h : Ks N n0 Lx W A m c ks) (hb : Below W.heap.size W W') : Ks N n0 Lx W' A m c ks := h.grown (grown_of_below hb) (fun r e => by cases e)
theorem below_new {w W1 wz : World} {a0 : Nat} (hb : Below w.heap.size w W1) (gz : W1.grownBy wz (some a0)) (ha : w.heap.size ≤ a0) : Below w.heap.size w wz :=
  ⟨gz.os.trans hb.os, gz.tape.trans hb.tape, gz.output.trans hb.output, Nat.le_trans hb.size gz.size, fun k hk => (gz.block k (Nat.lt_of_lt_of_le hk hb.size) (fun e => by injection e with e; omega)).trans (hb.block k hk)⟩
set_option maxRecDepth 100000 in
set_option maxHeartbeats 4000000 in
theorem one_any (k : Int) (n0 : Nat) (ks : List Itm) (A : Option Addr) (m c : Nat) (w : World) (h : Ks 1 n0 [] w A m c ks) (hm : 1 ≤ m) :
    Calls Tryz.prog 105 #[.int .i64 k, .slice A m c] w fun e w' => ∃ v, e = .returned (ivA v) ∧ ItX 1 n0 [] w' v (oneI k ks) ∧ Below w.heap.size w w' := by
  obtain ⟨W1, hW1⟩ : ∃ W1, W1 = w.alloc (.cells #[.int .i64 0, .int .i64 0, .int .i64 0, .int .i64 0, .bool false, .int .i64 0, .int .i64 0, .int .i64 0, .string ⟨#[]⟩, .int .i64 0, .slice none 0 0] 93) := ⟨_, rfl⟩
  have HB := hid (show Below w.heap.size w W1 by rw [hW1]; exact (Below.refl _ _).alloc (Nat.le_refl _) _)
  have H0 := hid (show ItB W1 w.heap.size iv0 by rw [hW1]; exact nwB rfl)
  obtain ⟨a0, ha0⟩ : ∃ a, a = w.heap.size := ⟨_, rfl⟩
  have HA0 := hid (show w.heap.size ≤ a0 by omega)
  rw [← ha0] at H0
  have HAE := hid ha0
  have hlen : ks.length = m := by obtain ⟨_, _, h2, _⟩ := h; exact h2
  by_cases h1 : m = 1
  · subst h1
    obtain ⟨x, rfl⟩ : ∃ x, ks = [x] := by
      match ks, hlen with
      | [x], _ => exact ⟨x, rfl⟩
    obtain ⟨b, v, rfl, hb, hr, hx⟩ := h.first
    have HRG := hid (show W1.rangeAt b 0 (ivC v) from fun j u hj => (HB.out.cell (p := ⟨b, 0 + j, none⟩) hb).trans (hr j u hj))
    have HX := hid hx
    have HW1 := hid hW1
    clear hW1 h hlen hm hr hx ha0 hb
    go_enter Tryz.func105, Tryz.ntmps105
    go_upto_region 1 with (fail)
    rw [← HW1.out, ← HAE.out]
    clear HW1
    go_wp2_with (first | (refine wp_load_it rfl (.tmp 9) rfl b 0 v rfl HRG.out ?_) | (refine wp_store_it rfl (.tmp 4) (.tmp 10) rfl a0 iv0 v rfl rfl H0.out ?_; intro wz hz gz))
    have hc := hz.cells
    have k0 := hc.k0; have k1 := hc.k1; have k2 := hc.k2; have k3 := hc.k3; have k4 := hc.k4; have k5 := hc.k5; have k6 := hc.k6; have k7 := hc.k7; have k8 := hc.k8; have k9 := hc.k9; have k10 := hc.k10
    refine bodyPost_ret (v := ivA v) (by simp [results, Tryz.results105, go_sem, k0, k1, k2, k3, k4, k5, k6, k7, k8, k9, k10, ivA]) rfl ?_
    exact ⟨v, rfl, HX.out.under (below_new HB.out gz HA0.out), below_new HB.out gz HA0.out⟩
  · have e1 : ((m : Int) == 1) = false := by simp; omega
    have HX := hid (h.node (k := k) (by decide))
    have HO := hid (show oneI k ks = kI k ks by
      match ks, hlen with
      | [], _ => rfl
      | [x], hl => exact absurd hl.symm h1
      | x :: y :: l, _ => rfl)
    have HW1 := hid hW1
    clear hW1 h hlen hm h1 ha0
    go_enter Tryz.func105, Tryz.ntmps105
    go_upto_region 1 with (fail)
    rw [← HW1.out, ← HAE.out]
    clear HW1
    go_wp2_with (first | (refine wp_store_it rfl (.tmp 4) (.tmp 14) rfl a0 iv0 ⟨kN k, ⟨#[]⟩, 0, A, m, c⟩ rfl rfl H0.out ?_; intro wz hz gz))
    have hc := hz.cells
    have k0 := hc.k0; have k1 := hc.k1; have k2 := hc.k2; have k3 := hc.k3; have k4 := hc.k4; have k5 := hc.k5; have k6 := hc.k6; have k7 := hc.k7; have k8 := hc.k8; have k9 := hc.k9; have k10 := hc.k10
    refine bodyPost_ret (v := ivA ⟨kN k, ⟨#[]⟩, 0, A, m, c⟩) (by simp [results, Tryz.results105, go_sem, k0, k1, k2, k3, k4, k5, k6, k7, k8, k9, k10, ivA]) rfl ?_
    refine ⟨_, rfl, ?_, below_new HB.out gz HA0.out⟩
    rw [HO.out]
    exact HX.out.under (below_new HB.out gz HA0.out)
end Go.Proofs.YtimblabaeclhpaaGreat
