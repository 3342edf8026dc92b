/- A RANGE OVER A FUNCTION WHOSE ITERATOR ONLY DRAWS: the law for the caller. -/
import Derived.Test.YtfkcpcdndleboaaBase
import Derived.Test.YtfkcpcdndleboaaNode
import Derived.Shelf.Abstract
import Derived.Lib.AppendZerosOnto
import Derived.Lib.Walk
import Derived.Lib.SliceRun
namespace Go.Proofs.Ytfkcpcdndleboaa
open Go.RowKit
section
variable {α : Type}
/-- What an iterator gives: xs, one after the other, in worlds in which what it reads stands (which every invariant implies). -/
def SeqD (F : Fence) (n : Nat) (P : Program) (g : Nat) (lb : Array Value) (encs : α → Array Value) (Ki : World → Prop) (xs : List α) : Prop :=
  ∀ (l : Nat) (J Jx : List α → World → Prop) (W : World), (∀ s W q, J s W → J s (W.drewN q)) → (∀ s W q, Jx s W → Jx s (W.drewN q)) → (∀ s W, J s W → Ki W) →
    (∀ pre x W1, J pre W1 → pre ++ [x] <+: xs → YieldAt F (n - 1) P l (encs x) W1 fun e W' => (e = .returned (.bool true) ∧ J (pre ++ [x]) W') ∨ (e = .returned (.bool false) ∧ Jx (pre ++ [x]) W')) →
    J [] W → CallsIn F n P g (#[.func (.yield l) #[] #[]] ++ lb) W fun e W' => (∃ v, e = .returned v) ∧ (J xs W' ∨ ∃ pre, pre <+: xs ∧ Jx pre W')
/-- What the caller's own invariant stands: draws, new blocks, and the book-keeping's objects. -/
structure Stands (D : Nat) (I : World → Prop) : Prop where
  draw : ∀ W q, I W → I (W.drewN q)
  alloc : ∀ W o, I W → I (W.alloc o)
  put : ∀ W l o o', I W → D ≤ l → W.heap[l]? = some o → o.isCells = false → I (W.putObj l o')
theorem Stands.of_grown {D : Nat} {I : World → Prop} (h : ∀ W W' row, I W → W.grownBy W' row → (∀ r, row = some r → D ≤ r ∧ ∃ o : Obj, W.heap[r]? = some o ∧ o.isCells = false) → I W') : Stands D I where
  draw := fun W q hi => h W _ none hi (grown_of_below (below_drewN (Below.refl _ _) q)) (fun r e => by cases e)
  alloc := fun W o hi => h W _ none hi (World.grownBy_alloc _ o none) (fun r e => by cases e)
  put := fun W l o o' hi hl ho hc => h W _ (some l) hi (grownBy_putObj' W l o') (fun r e => by cases e; exact ⟨hl, o, ho, hc⟩)
variable {F : Fence} {n : Nat} {P : Program}
theorem range_draws {g : Operand} {ps : Array Tmp} {assign body : Code} {Q : Exit → Act → World → Prop} {a : Act} {w : World}
    (hro : F.round = none) (h1 : 1 ≤ n) {gf : Nat} {lb : Array Value} (hg : a.eval g = .func (.func gf) #[] lb) (hFg : F.fn gf) (eg : ∀ args w, (callFunc gf args).run P w = .ok (.enter gf args) w)
    {encs : α → Array Value} {Ki : World → Prop} {xs : List α} (hseq : SeqD F (n - 1) P gf lb encs Ki xs) (hps : ∀ x, (encs x).size = ps.size)
    (I : List α → World → Prop) (Ix : Code → List α → World → Prop) (hI : ∀ s, Stands w.heap.size (I s)) (hIx : ∀ c s, Stands w.heap.size (Ix c s)) (hK : ∀ s W, I s W → Ki W) (h0 : I [] w) (a₁ : α → Act)
    (hassign : ∀ (l : Nat) (x : α) (W : World) (K : Act → World → Prop), K (a₁ x) W →
      assign.wpIn (F.inRound l) (n - 1 - 1) P (Exit.then K (fun _ _ _ => False)) { tmps := (ps.zip (encs x)).foldl (fun t (p, v) => t.setIfInBounds p v) a.tmps, defers := [] } W)
    (hbody : ∀ (l : Nat) (pre : List α) (x : α) (W : World), I pre W → pre ++ [x] <+: xs → w.heap.size + 2 ≤ W.heap.size → body.wpIn (F.inRound l) (n - 1 - 1) P (ownPostK (fun _ _ => True) I Ix (pre ++ [x]) W) (a₁ x) W)
    (hdone : ∀ (D : Nat) (W : World), w.heap.size ≤ D → I xs W → W.heap[D]? = some (.deferred (some [])) → Q .normal { a with defers := { target := .collected D, args := #[] } :: a.defers } W)
    (hstop : ∀ (D : Nat) (c : Code) (pre : List α) (W : World), w.heap.size ≤ D → pre <+: xs → Ix c pre W → W.heap[D]? = some (.deferred (some [])) → c.wpIn F n P Q { a with defers := { target := .collected D, args := #[] } :: a.defers } W) :
    (Code.rangeFunc g ps assign body).wpIn F n P Q a w := by
  refine wpIn_rangeFunc fun fn hfn => ?_
  rw [hro]
  obtain ⟨rec, hrec⟩ : ∃ rec : LoopState → Option Code → Loop, rec = fun st pe => { state := st, pending := pe, fn, tmps := a.tmps, params := ps, assign, body, defers := w.heap.size } := ⟨_, rfl⟩
  obtain ⟨W1, hW1⟩ : ∃ W1, (w.alloc (.deferred (some []))).alloc (.loop (rec .ready none)) = W1 := ⟨_, rfl⟩
  have hs1 : W1.heap.size = w.heap.size + 2 := by rw [← hW1]; simp
  have hL1 : W1.heap[w.heap.size + 1]? = some (.loop (rec .ready none)) := by
    have := World.alloc_heap_new (w.alloc (.deferred (some []))) (.loop (rec .ready none))
    rw [hW1] at this
    simpa using this
  have hK1 : W1.heap[w.heap.size]? = some (.deferred (some [])) := by
    rw [← hW1]
    exact (Below.heap_alloc _ _ _ (by simp)).trans (World.alloc_heap_new w _)
  have hI1 : I [] W1 := by rw [← hW1]; exact (hI _).alloc _ _ ((hI _).alloc _ _ h0)
  have hdr : ∀ (W : World) (q k : Nat) (o : Obj), W.heap[k]? = some o → (W.drewN q).heap[k]? = some o := fun W q k o h => h
  refine ⟨w.heap.size + 1, [{ target := .collected w.heap.size, args := #[] }], W1, { target := .fn (.func gf) lb, args := #[.func (.yield (w.heap.size + 1)) #[] #[]] }, W1, gf,
    #[.func (.yield (w.heap.size + 1)) #[] #[]] ++ lb, W1, ?_, ?_, ?_, ?_, fun _ => h1, ?_⟩
  · rw [← hW1, hrec]
    exact run_enterLoop_outer _ _ _ _ _
  · simp only [resolve, hg]
    simp [go_sem]
  · intro f' hf'
    simp [Target.leads] at hf'
    subst hf'
    exact hFg
  · simp [invoke, go_sem, eg]
  · refine (hseq (w.heap.size + 1)
      (fun pre W => I pre W ∧ W.heap[w.heap.size + 1]? = some (.loop (rec .ready none)) ∧ W.heap[w.heap.size]? = some (.deferred (some [])))
      (fun pre W => ∃ c, Ix c pre W ∧ W.heap[w.heap.size + 1]? = some (.loop (rec .done (some c))) ∧ W.heap[w.heap.size]? = some (.deferred (some []))) W1 ?_ ?_ (fun s W h => hK s W h.1) ?_ ⟨hI1, hL1, hK1⟩).mono ?_
    · exact fun s W q hs => ⟨(hI s).draw W q hs.1, hdr _ _ _ _ hs.2.1, hdr _ _ _ _ hs.2.2⟩
    · rintro s W q ⟨c, hc, hl, hk⟩
      exact ⟨c, (hIx c s).draw W q hc, hdr _ _ _ _ hl, hdr _ _ _ _ hk⟩
    · rintro pre x W ⟨hi, hl, hk⟩ hlen
      have hlt : w.heap.size + 1 < W.heap.size := (Array.getElem?_eq_some_iff.1 hl).1
      have hy := run_yield (P := P) (args := encs x) hl (by rw [hrec]; exact hps x)
      rw [hrec] at hy
      obtain ⟨busy, hbusy⟩ : ∃ busy, busy = Obj.loop { rec .ready none with state := .busy } := ⟨_, rfl⟩
      refine ⟨fn, _, assign, body, hy, roundIn_of_wpIn hfn (hassign _ x W _ ⟨_, run_beginRound hl (by rw [hrec]), ?_⟩)⟩
      rw [← hbusy]
      have hl2 : (W.putObj (w.heap.size + 1) busy).heap[w.heap.size + 1]? = some busy := World.putObj_heap_same hlt
      have hk2 : (W.putObj (w.heap.size + 1) busy).heap[w.heap.size]? = some (.deferred (some [])) := (World.putObj_heap_other (by omega)).trans hk
      have hbc : busy.isCells = false := by rw [hbusy]; rfl
      refine wpIn_mono (hbody _ pre x _ ((hI _).put _ _ _ _ hi (by omega) hl rfl) hlen (by simp; omega)) ?_
      have fin : ∀ (jump : Option Code) (W3 : World), KeepsOthers (W.putObj (w.heap.size + 1) busy) W3 →
          (Instr.endRound (w.heap.size + 1) jump).run P W3 = .ok (.bool jump.isNone) (W3.putObj (w.heap.size + 1) (.loop (rec (if jump.isNone then .ready else .done) jump))) ∧
          W3.heap[w.heap.size + 1]? = some busy ∧
          (W3.putObj (w.heap.size + 1) (.loop (rec (if jump.isNone then .ready else .done) jump))).heap[w.heap.size + 1]? = some (.loop (rec (if jump.isNone then .ready else .done) jump)) ∧
          (W3.putObj (w.heap.size + 1) (.loop (rec (if jump.isNone then .ready else .done) jump))).heap[w.heap.size]? = some (.deferred (some [])) := fun jump W3 hk3 => by
        have hl3 := hk3.same _ _ hl2 hbc
        have hl4 := hl3
        rw [hbusy] at hl3
        have hrun := run_endRound (P := P) jump hl3
        rw [hrec] at hrun ⊢
        exact ⟨hrun, hl4, World.putObj_heap_same (Array.getElem?_eq_some_iff.1 hl4).1, (World.putObj_heap_other (by omega)).trans (hk3.same _ _ hk2 rfl)⟩
      rintro e a3 W3 hp
      cases e with
      | normal =>
        obtain ⟨hk3, _, hi3⟩ := hp
        obtain ⟨hr, hl3, hl4, hk4⟩ := fin none W3 hk3
        exact ⟨_, _, hr, .inl ⟨rfl, (hI _).put _ _ _ _ hi3 (by omega) hl3 hbc, hl4, hk4⟩⟩
      | ret =>
        obtain ⟨hk3, hi3⟩ := hp
        obtain ⟨hr, hl3, hl4, hk4⟩ := fin (some .ret) W3 hk3
        exact ⟨_, _, hr, .inr ⟨rfl, .ret, (hIx _ _).put _ _ _ _ hi3 (by omega) hl3 hbc, hl4, hk4⟩⟩
      | exit id =>
        obtain ⟨hk3, hi3⟩ := hp
        obtain ⟨hr, hl3, hl4, hk4⟩ := fin (some (.exit id)) W3 hk3
        exact ⟨_, _, hr, .inr ⟨rfl, .exit id, (hIx _ _).put _ _ _ _ hi3 (by omega) hl3 hbc, hl4, hk4⟩⟩
      | goto t =>
        obtain ⟨hk3, hi3⟩ := hp
        obtain ⟨hr, hl3, hl4, hk4⟩ := fin (some (.goto t)) W3 hk3
        exact ⟨_, _, hr, .inr ⟨rfl, .goto t, (hIx _ _).put _ _ _ _ hi3 (by omega) hl3 hbc, hl4, hk4⟩⟩
      | panic ch => exact hp.elim
      | outgrown => exact hp.elim
    · rintro e W2 ⟨⟨v, rfl⟩, (⟨hi, hl, hk⟩ | ⟨pre, hSp, c, hi, hl, hk⟩)⟩
      · have hrun := run_endLoop (P := P) hl (by rw [hrec]; simp)
        rw [hrec] at hrun
        exact ⟨none, _, hrun, hdone _ _ (Nat.le_refl _) ((hI _).put _ _ _ _ hi (by omega) hl rfl) ((World.putObj_heap_other (by omega)).trans hk)⟩
      · have hrun := run_endLoop (P := P) hl (by rw [hrec]; simp)
        rw [hrec] at hrun
        exact ⟨some c, _, hrun, hstop _ c pre _ (Nat.le_refl _) hSp ((hIx c _).put _ _ _ _ hi (by omega) hl rfl) ((World.putObj_heap_other (by omega)).trans hk)⟩
end
end Go.Proofs.Ytfkcpcdndleboaa

/- WALK: the kids of a node: groups.kids, its iterator, slices.Collect of it. -/
namespace Go.Proofs.Ytfkcpcdndleboaa
open Go.RowKit Go.Shelf
attribute [local go_sem] Oper.semAt_some
def kidsR (l : List Nd) (to : Nat) : Nat → Nat → List Nat
  | 0, _ => []
  | f + 1, k => if k < to then k :: kidsR l to f (endOf l k) else []
def kidsFrom (l : List Nd) (to k : Nat) : List Nat := kidsR l to (to - k) k
theorem kidsR_stop {l : List Nd} {to k : Nat} (h : ¬ k < to) : ∀ f, kidsR l to f k = []
  | 0 => rfl
  | _ + 1 => if_neg h
theorem kidsR_fuel {l : List Nd} {to : Nat} : ∀ (f g k : Nat), to ≤ f + k → to ≤ g + k → kidsR l to f k = kidsR l to g k
  | 0, g, k, h, _ => by rw [kidsR_stop (by omega), kidsR_stop (by omega)]
  | f + 1, 0, k, _, h => by rw [kidsR_stop (by omega), kidsR_stop (by omega)]
  | f + 1, g + 1, k, h1, h2 => by
    by_cases h : k < to
    · rw [kidsR, kidsR, if_pos h, if_pos h]
      have := endOf_gt l k
      rw [kidsR_fuel f g (endOf l k) (by omega) (by omega)]
    · rw [kidsR_stop h, kidsR_stop h]
theorem kidsFrom_s {l : List Nd} {to k : Nat} (h : k < to) : kidsFrom l to k = k :: kidsFrom l to (endOf l k) := by
  unfold kidsFrom
  have := endOf_gt l k
  rw [kidsR_fuel (to - k) (to - k + 1) k (by omega) (by omega), kidsR, if_pos h, kidsR_fuel (to - k) (to - endOf l k) (endOf l k) (by omega) (by omega)]
theorem kidsFrom_stop {l : List Nd} {to k : Nat} (h : ¬ k < to) : kidsFrom l to k = [] := kidsR_stop h _
def kidsFr (node : Int) : Nat := if 0 ≤ node then node.toNat + 1 else 0
def kidsTo (l : List Nd) (node : Int) : Nat := if 0 ≤ node then endOf l node.toNat else l.length
/-- The kids of a node, or, for a number below 0, the groups. -/
def kidsOf (l : List Nd) (node : Int) : List Nat := kidsFrom l (kidsTo l node) (kidsFr node)
/-- What the iterator finds: the list and the node, each in its box. -/
structure KK (l : List Nd) (A : Option Addr) (c : Nat) (node : Int) (n0 b1 b2 : Nat) (W : World) : Prop where
  l_ : W.heap[b1]? = some (.cells #[.slice A l.length c] 25 (0, 0))
  n_ : W.heap[b2]? = some (.cells #[.int .i64 node] 3 (0, 0))
  nds : Nds W n0 A l
set_option maxRecDepth 100000 in
set_option maxHeartbeats 2000000 in
theorem kids_seq (l : List Nd) (node : Int) (hnode : node < l.length) (hnl : -9223372036854775808 ≤ node) (hl : l.length ≤ 1000000) (A : Option Addr) (c n0 b1 b2 n : Nat) :
    SeqD Fence.wide n Try.prog 124 #[.pointer (some ⟨b1, 0, none⟩), .pointer (some ⟨b2, 0, none⟩)] (fun k : Nat => #[.int .i64 (k : Int)]) (KK l A c node n0 b1 b2) (kidsOf l node) := by
  intro lid J Jx W hJd hJxd hJK hY hj
  have hK := hJK [] W hj
  have p1 := cell_of_one hK.l_
  have p2 := cell_of_one hK.n_
  have hfw : ∀ f, Fence.wide.fn f := fun _ => trivial
  have hfd : Fence.wide.depth = none := rfl
  have hdd : ∀ k : Nat, (Fence.wide.depth.isSome = true → 1 ≤ k) := fun k h => by cases h
  have HEND := hid fun (i : Nat) (hi : i < l.length) (W1 : World) (h : Nds W1 n0 A l) => end_any l i hi hl A c W1 n0 h
  obtain ⟨N, hN⟩ : ∃ N, N = l.length := ⟨_, rfl⟩
  rw [← hN] at hnode hl p1 HEND
  have HN := hid hN; have HK := hid hK; have HJD := hid hJd; have HJXD := hid hJxd; have HJK := hid hJK; have HY := hid hY; have HJ := hid hj
  clear hN hK hJd hJxd hJK hY hj
  refine callsIn_of_wp Try.func124 rfl trivial ?_ rfl
  simp only [Try.ntmps124, List.size_toArray, List.length_cons, List.length_nil, Nat.reduceAdd, Nat.reduceSub, Array.replicate_succ, Array.replicate_zero, List.push_toArray, List.append_toArray, List.nil_append, List.cons_append]
  by_cases h0 : 0 ≤ node
  · obtain ⟨i, rfl⟩ : ∃ i : Nat, node = i := ⟨node.toNat, by omega⟩
    have hi : i < N := by omega
    have hfr : kidsOf l (i : Int) = kidsFrom l (endOf l i) (i + 1) := by unfold kidsOf kidsTo kidsFr; rw [if_pos h0, if_pos h0]; rfl
    have hd : decide ((0 : Int) ≤ (i : Int)) = true := decide_eq_true h0
    have hle := endOf_le (l := l) (i := i) (by rw [← HN.out]; exact hi)
    rw [← HN.out] at hle
    obtain ⟨to, hto⟩ : ∃ to, to = endOf l i := ⟨_, rfl⟩
    rw [← hto] at hle hfr
    have HFR := hid hfr
    have HEI := hid fun q => HEND.out i hi (W.drewN q) (HK.out.nds.below (below_drewN (Below.refl _ _) _))
    rw [← hto] at HEI
    clear hfr hto h0
    have q0 : IntKind.i64.wrap ((i : Int) + 1) = (i : Int) + 1 := IntWalk.i64_in _ (by omega)
    gi_wp2
    gi_quiet (fail)
    gi_wp2
    gi_quiet ((gi_at_call 125; go_must (exact callsIn_wide.2 ((HEI.out _).mono fun e w' h => ⟨h.1, by obtain ⟨_, n5, hw⟩ := h; exact ⟨_, by rw [hw, World.drewN_drewN, Nat.add_assoc]⟩⟩))))
    try rw [q0]
    clear q0
    gi_wp2
    gi_loopw [6] (fun kv wr => ∃ (k : Nat) (pre : List Nat), kv = .int .i64 k ∧ Hid (pre ++ kidsFrom l to k = kidsOf l (i : Int)) ∧ Hid (J pre wr)) (fun kv _ => to - (intOf kv).toNat)
    case atStart => exact ⟨i + 1, [], by go_num, HFR.out.symm, HJD.out _ _ _ (HJD.out _ _ _ HJ.out)⟩
    case round =>
      obtain ⟨k, pre, rfl, hP, hJ⟩ := hrel
      by_cases hk : k < to
      · have hKK := HJK.out pre wr hJ.out
        have r1 := cell_of_one hKK.l_
        have r2 := cell_of_one hKK.n_
        rw [← HN.out] at r1
        have hks := kidsFrom_s (l := l) hk
        have hkP := hP.out
        rw [hks] at hkP
        have hpx : pre ++ [k] <+: kidsOf l (i : Int) := ⟨kidsFrom l to (endOf l k), by rw [← hkP, List.append_assoc]; rfl⟩
        have hgt := endOf_gt l k
        obtain ⟨fn, tmps, assign, body, hy, hR⟩ := HY.out pre k wr hJ.out hpx
        obtain ⟨k2, hk2⟩ : ∃ k2, k2 = endOf l k := ⟨_, rfl⟩
        rw [← hk2] at hgt hkP
        have HNX : Hid ((pre ++ [k]) ++ kidsFrom l to k2 = kidsOf l (i : Int)) := by rw [List.append_assoc]; exact hkP
        have HEK := hid fun (W1 : World) h => HEND.out k (by omega) W1 h
        rw [← hk2] at HEK
        have HPX := hid hpx
        clear hKK hks hkP hpx hk2 hP
        gi_wp2_with (first | ((first | refine ⟨hdd _, ?_⟩ | refine ⟨trivial, hdd _, ?_⟩ | skip); refine hR.mono ?_; clear hR; rintro e w5 (⟨rfl, hj5⟩ | ⟨rfl, hx5⟩); focus (have hKK := HJK.out _ _ hj5; have r3 := cell_of_one hKK.l_; rw [← HN.out] at r3; have HE5 := hid (HEK.out w5 hKK.nds); have HJ5 := hid fun q => HJD.out _ _ q hj5; clear hKK hj5 r1 r2 hy)) | ((first | refine ⟨trivial, hdd _, ?_⟩ | refine ⟨hdd _, ?_⟩ | skip); gi_at_call 125; refine (callsIn_wide.2 HE5.out).mono ?_; rintro e w6 ⟨rfl, q6, rfl⟩))
        · go_roundw
          case rel => exact ⟨k2, pre ++ [k], by go_num, HNX.out, HJ5.out _⟩
          case measure => simp [intOf]; omega
        · exact bodyPost_ret (v := .tuple #[]) (by simp [results, Try.results124, go_sem]) rfl ⟨⟨_, rfl⟩, .inr ⟨_, HPX.out, hx5⟩⟩
      · have hst := kidsFrom_stop (l := l) hk
        have hkP := hP.out
        rw [hst, List.append_nil] at hkP
        have HX := hid hkP
        clear hst hkP hP
        gi_wp2
        go_end0
        exact ⟨⟨_, rfl⟩, .inl (by rw [← HX.out]; exact hJ.out)⟩
  · have hd : decide ((0 : Int) ≤ node) = false := decide_eq_false h0
    have hfr : kidsOf l node = kidsFrom l N 0 := by unfold kidsOf kidsTo kidsFr; rw [if_neg h0, if_neg h0, HN.out]
    have HFR := hid hfr
    clear hfr h0
    gi_wp2
    gi_quiet (fail)
    gi_wp2
    gi_loopw [6] (fun kv wr => ∃ (k : Nat) (pre : List Nat), kv = .int .i64 k ∧ Hid (pre ++ kidsFrom l N k = kidsOf l node) ∧ Hid (J pre wr)) (fun kv _ => N - (intOf kv).toNat)
    case atStart => exact ⟨0, [], by go_num, HFR.out.symm, HJD.out _ _ _ HJ.out⟩
    case round =>
      obtain ⟨k, pre, rfl, hP, hJ⟩ := hrel
      by_cases hk : k < N
      · have hKK := HJK.out pre wr hJ.out
        have r1 := cell_of_one hKK.l_
        have r2 := cell_of_one hKK.n_
        rw [← HN.out] at r1
        have hks := kidsFrom_s (l := l) hk
        have hkP := hP.out
        rw [hks] at hkP
        have hpx : pre ++ [k] <+: kidsOf l node := ⟨kidsFrom l N (endOf l k), by rw [← hkP, List.append_assoc]; rfl⟩
        have hgt := endOf_gt l k
        obtain ⟨fn, tmps, assign, body, hy, hR⟩ := HY.out pre k wr hJ.out hpx
        obtain ⟨k2, hk2⟩ : ∃ k2, k2 = endOf l k := ⟨_, rfl⟩
        rw [← hk2] at hgt hkP
        have HNX : Hid ((pre ++ [k]) ++ kidsFrom l N k2 = kidsOf l node) := by rw [List.append_assoc]; exact hkP
        have HEK := hid fun (W1 : World) h => HEND.out k (by omega) W1 h
        rw [← hk2] at HEK
        have HPX := hid hpx
        clear hKK hks hkP hpx hk2 hP
        gi_wp2_with (first | ((first | refine ⟨hdd _, ?_⟩ | refine ⟨trivial, hdd _, ?_⟩ | skip); refine hR.mono ?_; clear hR; rintro e w5 (⟨rfl, hj5⟩ | ⟨rfl, hx5⟩); focus (have hKK := HJK.out _ _ hj5; have r3 := cell_of_one hKK.l_; rw [← HN.out] at r3; have HE5 := hid (HEK.out w5 hKK.nds); have HJ5 := hid fun q => HJD.out _ _ q hj5; clear hKK hj5 r1 r2 hy)) | ((first | refine ⟨trivial, hdd _, ?_⟩ | refine ⟨hdd _, ?_⟩ | skip); gi_at_call 125; refine (callsIn_wide.2 HE5.out).mono ?_; rintro e w6 ⟨rfl, q6, rfl⟩))
        · go_roundw
          case rel => exact ⟨k2, pre ++ [k], by go_num, HNX.out, HJ5.out _⟩
          case measure => simp [intOf]; omega
        · exact bodyPost_ret (v := .tuple #[]) (by simp [results, Try.results124, go_sem]) rfl ⟨⟨_, rfl⟩, .inr ⟨_, HPX.out, hx5⟩⟩
      · have hst := kidsFrom_stop (l := l) hk
        have hkP := hP.out
        rw [hst, List.append_nil] at hkP
        have HX := hid hkP
        clear hst hkP hP
        gi_wp2
        go_end0
        exact ⟨⟨_, rfl⟩, .inl (by rw [← HX.out]; exact hJ.out)⟩
end Go.Proofs.Ytfkcpcdndleboaa

/- WALK: slices.Collect of the kids of a node. -/
namespace Go.Proofs.Ytfkcpcdndleboaa
open Go.RowKit Go.Shelf
attribute [local go_sem] Oper.semAt_some
def nz (l : List Nat) : List Int := l.map fun x : Nat => (x : Int)
theorem nz_len (l : List Nat) : (nz l).length = l.length := by simp [nz]
set_option maxRecDepth 100000 in
theorem kids_any (A : Option Addr) (N c : Nat) (node : Int) (w : World) :
    Calls Try.prog 119 #[.slice A N c, .int .i64 node] w fun e w' => e = .returned (.func (.func 124) #[] #[.pointer (some ⟨w.heap.size, 0, none⟩), .pointer (some ⟨w.heap.size + 1, 0, none⟩)]) ∧
      w' = (w.alloc (.cells #[.slice A N c] 25)).alloc (.cells #[.int .i64 node] 3) := by
  go_enter Try.func119, Try.ntmps119
  go_wp2_with fail
  go_ret
  exact ⟨rfl, rfl⟩
/-- What Collect keeps: the list's cell, the list. -/
structure CM (w : World) (s : List Nat) (v : Value) (W : World) : Prop where
  c_ : W.heap[w.heap.size]? = some (.cells #[v] 65 (0, 0))
  own : W.ownsRow (w.heap.size + 3) 3 1 v s.length (ints (nz s))
  bel : Below w.heap.size w W
theorem CM.grown {w W W' : World} {s : List Nat} {v : Value} {row : Option Nat} (h : CM w s v W) (hg : W.grownBy W' row) (hr : ∀ r, row = some r → w.heap.size + 1 ≤ r ∧ ∃ o : Obj, W.heap[r]? = some o ∧ o.isCells = false) : CM w s v W' := by
  have hz := h.bel.size
  refine ⟨(hg.block _ (lt_of_block h.c_) fun e => by have := (hr _ e.symm).1; omega).trans h.c_, ?_, h.bel.grown hg hz fun k e => by have := (hr k e).1; omega⟩
  obtain ⟨h1, h2⟩ := h.own
  refine ⟨h1, ?_⟩
  rcases h2 with h2 | ⟨g, cap, cur, hv, hgb, hh, rest⟩
  · exact .inl h2
  · refine .inr ⟨g, cap, cur, hv, hgb, (hg.block g (lt_of_block hh) fun e => ?_).trans hh, rest⟩
    obtain ⟨_, o, h4, h5⟩ := hr g e.symm
    rw [hh] at h4
    injection h4 with h4
    rw [← h4] at h5
    cases h5
theorem CM.step {w W W6 : World} {s : List Nat} {v v' : Value} {k : Nat} (h : CM w s v W) (hz : w.heap.size + 3 ≤ W.heap.size)
    (hown : W6.ownsRow (w.heap.size + 3) 3 1 v' (s.length + 1) (ints (nz s) ++ [.int .i64 (k : Int)])) (hg : (W.alloc (.cells #[.int .i64 (k : Int)] 3)).grownBy W6 v.ownBlock) :
    KeepsOthers W (W6.setCell ⟨w.heap.size, 0, none⟩ v') ∧ CM w (s ++ [k]) v' (W6.setCell ⟨w.heap.size, 0, none⟩ v') := by
  have hoa := h.own.alloc (.cells #[.int .i64 (k : Int)] 3)
  have hlt := hoa.lt
  refine ⟨?_, ?_, ?_, ?_⟩
  · refine ((KeepsOthers.alloc W _).trans (KeepsOthers.of_grownBy hg fun j o hj ho => ?_)).trans (KeepsOthers.setCell _ _ _)
    rcases hoa.2 with ⟨h4, _⟩ | ⟨g, cap, cur, hv, _, hh, _⟩
    · rw [h4] at hj; cases hj
    · rw [hv] at hj
      injection hj with hj
      rw [← show g = j from hj, hh] at ho
      injection ho with ho
      rw [← ho]; rfl
  · refine one_setCell (v := v) ?_
    rw [hg.block _ (by simp; omega) fun e => by have := (hlt _ e.symm).1; omega]
    exact (Below.heap_alloc _ _ _ (by omega)).trans h.c_
  · rw [List.length_append]
    have := ownsRow_setCell_other hown (a := ⟨w.heap.size, 0, none⟩) (fun he => by have := (hown.lt _ he).1; simp at this; omega) v'
    have e : ints (nz (s ++ [k])) = ints (nz s) ++ [.int .i64 (k : Int)] := by unfold nz; rw [List.map_append, ints_append]; rfl
    rw [e]
    exact this
  · have h1 : Below w.heap.size w (W.alloc (.cells #[.int .i64 (k : Int)] 3)) := h.bel.alloc h.bel.size _
    exact (below_app h1 hoa hg (by omega) (by simp; omega)).setCell (Nat.le_refl _) _
theorem CM.stands {w : World} {s : List Nat} : Stands (w.heap.size + 1) (fun W => ∃ v, CM w s v W) :=
  Stands.of_grown fun _ _ _ ⟨v, h⟩ hg hr => ⟨v, h.grown hg hr⟩
theorem kidsR_len {l : List Nd} {to : Nat} : ∀ f k, (kidsR l to f k).length ≤ f
  | 0, _ => Nat.zero_le _
  | f + 1, k => by
    unfold kidsR
    split
    · have := kidsR_len (l := l) (to := to) f (endOf l k)
      rw [List.length_cons]; omega
    · exact Nat.zero_le _
theorem kidsOf_len {l : List Nd} {node : Int} (h : node < l.length) : (kidsOf l node).length ≤ l.length := by
  unfold kidsOf kidsFrom
  have h1 := kidsR_len (l := l) (to := kidsTo l node) (kidsTo l node - kidsFr node) (kidsFr node)
  have h2 : kidsTo l node ≤ l.length := by
    unfold kidsTo
    split
    · exact endOf_le (by omega)
    · exact Nat.le_refl _
  omega
end Go.Proofs.Ytfkcpcdndleboaa

/- WALK: slices.Grow of nothing, slices.Concat of two rows of numbers. -/
namespace Go.Proofs.Ytfkcpcdndleboaa
open Go.RowKit
theorem run_append_noneC {P : Program} {w : World} (base : Nat) (t ty e : TypeId) (i : TypeInfo) (size : Nat) (ht : P.underlying t = some (.slice e)) (hi : P.info? e = some i)
    (v : Value) (n c : Nat) (xs : List Value) (hown : w.ownsRow base e size v n xs) :
    (Builtin.append_ #[t, t] ty #[v, .slice none 0 c]).run P w = .ok v w := by
  rcases hown.2 with ⟨rfl, rfl⟩ | ⟨g, cap, cur, rfl, _, _, hnc, _⟩
  · simp [Builtin.append_, run_underlying ht, sizeOf, typeInfo, hi, Builtin.lenOf, Builtin.firstCells]
  · simp [Builtin.append_, run_underlying ht, sizeOf, typeInfo, hi, Builtin.lenOf, Builtin.firstCells, hnc, storeCells]
end Go.Proofs.Ytfkcpcdndleboaa
