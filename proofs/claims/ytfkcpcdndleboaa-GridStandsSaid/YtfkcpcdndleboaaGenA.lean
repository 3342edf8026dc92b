/- UTIL: a region that draws its order: reads and calls, one fresh box at any time, then a tail in a forced order. -/
import Derived.Test.YtfkcpcdndleboaaGen
namespace Go.Proofs.Ytfkcpcdndleboaa
open Go.RowKit
def al1B (l : List Oper) (n : Nat) (hs : List Nat) (i1 : Nat) (ts : List Nat) : Bool :=
  let s0 := Array.replicate l.toArray.size false
  let s1 := listAll hs s0
  Region.noSelect l.toArray && headB .any l.toArray hs s0 && tailB .any l.toArray ts (s1.setIfInBounds i1 true) &&
  (ts.all fun t => (i1 :: hs).all fun x => covers .any l.toArray 40 t x) && dstsOk n (hs.map fun i => l.getD i default) && ((i1 :: (hs ++ ts)).all fun i => decide (i < l.length)) && decide (hs.length + 1 + ts.length = l.length) &&
  decide (Region.ready .any l.toArray s1 = [i1])
/-- THE LAW of a region in whose front one box is made. -/
theorem region_al1 {P : Program} {l : List Oper} {id : Nat} {w0 w : World} {Q : Exit → Act → World → Prop} {a : Act} (n : Nat) (hs : List Nat) (i1 : Nat) (ts : List Nat) (d1 : Nat) (o1 : Oper) (Z1 : Obj) (hm : P.follows .mixedOrders = true) (hB : al1B l n hs i1 ts = true) (hn : a.tmps.size = n) (hw : Up w0 w)
    (ho1 : l.toArray[i1]? = some o1) (hd1 : o1.dst = some d1) (hz1 : XAl P o1 Z1)
    (h : ∃ aF : Act, (∀ wb, Up w0 wb → wpQuiet P l.toArray (fun w' => ∃ z : BW wb.heap.size wb, w' = z.val) (fun a' => a' = aF) (hs.map fun i => l.getD i default) a) ∧
      ∀ (p : Nat) (w' : World), w0.heap.size ≤ p → w'.heap[p]? = some Z1 → Up w0 w' →
      wpList P l.toArray Q (ts.map fun i => l.getD i default) (aF.put (some d1) (.pointer (some ⟨p, 0, none⟩))) w') : (Code.region id l.toArray true).wp P Q a w := by
  obtain ⟨aF, hq, ht⟩ := h
  simp only [al1B, Bool.and_eq_true, decide_eq_true_eq] at hB
  obtain ⟨⟨⟨⟨⟨⟨⟨hsel, hhead⟩, htail⟩, hcov⟩, hd⟩, hlt⟩, hlen⟩, hr0⟩ := hB
  have hlt1 : ∀ i ∈ hs ++ ts, i < l.length := fun i hi => by simpa using List.all_eq_true.1 hlt i (by simp [List.mem_append.1 hi])
  have hcov1 : ∀ t ∈ ts, ∀ x ∈ i1 :: hs, covers .any l.toArray 40 t x = true := fun t ht x hx => List.all_eq_true.1 (List.all_eq_true.1 hcov t ht) x hx
  have hup : wpUp P l.toArray w0 (hs.map fun i => l.getD i default) a aF := up_of_quiet _ a (by rw [hn]; exact hd) hq
  have H := HX.lex (md := .any) (ts := ts) (front := i1 :: hs) (L := fun listed a' w' => tailB .any l.toArray ts listed = true ∧ ∃ p, a' = aF.put (some d1) (.pointer (some ⟨p, 0, none⟩)) ∧ w0.heap.size ≤ p ∧ w'.heap[p]? = some Z1 ∧ Up w0 w') hsel hcov1 (fun listed a w h => ready_tail h.1) 1 hs _ _ a (fun i hi => by simp [hi]) (map_getD hs fun i hi => hlt1 i (by simp [hi])) headInv0 hhead hup (fun listed' e _ => by
    subst e
    refine ⟨by rw [hr0]; simp, fun i hi => ?_⟩
    rw [hr0] at hi
    obtain rfl : i = i1 := by simpa using hi
    refine ⟨o1, ho1, .inr ⟨Z1, hz1, fun x hx => ?_⟩⟩
    exact ⟨htail, x.heap.size, by rw [hd1], hx.size, nw_blk0 x Z1, Below.alloc hx hx.size Z1⟩)
  refine wp_region_any hm ?_
  have hz := HX.any (Q' := Q) (g := ts.length) (fun listed a' w1 w' hw1 ⟨h1, p, h2, h3, h6, h8⟩ => by
    rw [h2]
    exact wpAny_tail ts _ listed _ w' (map_getD ts fun i hi => hlt1 i (by simp [hi])) h1 (ht p w' h3 ((hw1.block p (lt_of_block h6)).trans h6) (h8.trans hw1))) (hs.length + 1) _ a w0 w.drew hw.drew H
  have e : hs.length + 1 + ts.length = l.toArray.size := by
    have : l.toArray.size = l.length := by simp
    omega
  rw [e] at hz
  exact hz
end Go.Proofs.Ytfkcpcdndleboaa
