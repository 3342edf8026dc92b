/- A RANGE OVER A FUNCTION WHOSE ITERATOR ONLY DRAWS: the law for the caller. -/
import Derived.Test.YtimblabaeclhpaaGreatBase
import Derived.Test.YtimblabaeclhpaaGreatNode
import Derived.Shelf.Abstract
import Derived.Lib.AppendZerosOnto
import Derived.Lib.Walk
import Derived.Lib.SliceRun
namespace Go.Proofs.YtimblabaeclhpaaGreat
open Go.RowKit
section
variable {α : Type}
/-- What an iterator gives: xs, one after the other, in worlds in which what it reads stands (which every invariant implies). -/
def SeqD (F : Fence) (n : Nat) (P : Program) (g : Nat) (lb : Array Value) (encs : α → Array Value) (Ki : World → Prop) (xs : List α) : Prop :=
  ∀ (l : Nat) (J Jx : List α → World → Prop) (W : World), (∀ s W q, J s W → J s (W.drewN q)) → (∀ s W q, Jx s W → Jx s (W.drewN q)) → (∀ s W, J s W → Ki W) →
    (∀ pre x W1, J pre W1 → pre ++ [x] <+: xs → YieldAt F (n - 1) P l (encs x) W1 fun e W' => (e = .returned (.bool true) ∧ J (pre ++ [x]) W') ∨ (e = .returned (.bool false) ∧ Jx (pre ++ [x]) W')) →
    J [] W → CallsIn F n P g (#[.func (.yield l) #[] #[]] ++ lb) W fun e W' => (∃ v, e = .returned v) ∧ (J xs W' ∨ ∃ pre, pre <+: xs ∧ Jx pre W')
/-- What the caller's own invariant stands: draws, new blocks, and the book-keeping's objects. -/
structure Stands (D : Nat) (I : World → Prop) : Prop where
  draw : ∀ W q, I W → I (W.drewN q)
  alloc : ∀ W o, I W → I (W.alloc o)
  put : ∀ W l o o', I W → D ≤ l → W.heap[l]? = some o → o.isCells = false → I (W.putObj l o')
theorem Stands.of_grown {D : Nat} {I : World → Prop} (h : ∀ W W' row, I W → W.grownBy W' row → (∀ r, row = some r → D ≤ r ∧ ∃ o : Obj, W.heap[r]? = some o ∧ o.isCells = false) → I W') : Stands D I where
  draw := fun W q hi => h W _ none hi (grown_of_below (below_drewN (Below.refl _ _) q)) (fun r e => by cases e)
  alloc := fun W o hi => h W _ none hi (World.grownBy_alloc _ o none) (fun r e => by cases e)
  put := fun W l o o' hi hl ho hc => h W _ (some l) hi (grownBy_putObj' W l o') (fun r e => by cases e; exact ⟨hl, o, ho, hc⟩)
variable {F : Fence} {n : Nat} {P : Program}
theorem range_draws {g : Operand} {ps : Array Tmp} {assign body : Code} {Q : Exit → Act → World → Prop} {a : Act} {w : World}
    (hro : F.round = none) (h1 : 1 ≤ n) {gf : Nat} {lb : Array Value} (hg : a.eval g = .func (.func gf) #[] lb) (hFg : F.fn gf) (eg : ∀ args w, (callFunc gf args).run P w = .ok (.enter gf args) w)
    {encs : α → Array Value} {Ki : World → Prop} {xs : List α} (hseq : SeqD F (n - 1) P gf lb encs Ki xs) (hps : ∀ x, (encs x).size = ps.size)
    (I : List α → World → Prop) (Ix : Code → List α → World → Prop) (hI : ∀ s, Stands w.heap.size (I s)) (hIx : ∀ c s, Stands w.heap.size (Ix c s)) (hK : ∀ s W, I s W → Ki W) (h0 : I [] w) (a₁ : α → Act)
    (hassign : ∀ (l : Nat) (x : α) (W : World) (K : Act → World → Prop), K (a₁ x) W →
      assign.wpIn (F.inRound l) (n - 1 - 1) P (Exit.then K (fun _ _ _ => False)) { tmps := (ps.zip (encs x)).foldl (fun t (p, v) => t.setIfInBounds p v) a.tmps, defers := [] } W)
    (hbody : ∀ (l : Nat) (pre : List α) (x : α) (W : World), I pre W → pre ++ [x] <+: xs → w.heap.size + 2 ≤ W.heap.size → body.wpIn (F.inRound l) (n - 1 - 1) P (ownPostK (fun _ _ => True) I Ix (pre ++ [x]) W) (a₁ x) W)
    (hdone : ∀ (D : Nat) (W : World), w.heap.size ≤ D → I xs W → W.heap[D]? = some (.deferred (some [])) → Q .normal { a with defers := { target := .collected D, args := #[] } :: a.defers } W)
    (hstop : ∀ (D : Nat) (c : Code) (pre : List α) (W : World), w.heap.size ≤ D → pre <+: xs → Ix c pre W → W.heap[D]? = some (.deferred (some [])) → c.wpIn F n P Q { a with defers := { target := .collected D, args := #[] } :: a.defers } W) :
    (Code.rangeFunc g ps assign body).wpIn F n P Q a w := by
  refine wpIn_rangeFunc fun fn hfn => ?_
  rw [hro]
  obtain ⟨rec, hrec⟩ : ∃ rec : LoopState → Option Code → Loop, rec = fun st pe => { state := st, pending := pe, fn, tmps := a.tmps, params := ps, assign, body, defers := w.heap.size } := ⟨_, rfl⟩
  obtain ⟨W1, hW1⟩ : ∃ W1, (w.alloc (.deferred (some []))).alloc (.loop (rec .ready none)) = W1 := ⟨_, rfl⟩
  have hs1 : W1.heap.size = w.heap.size + 2 := by rw [← hW1]; simp
  have hL1 : W1.heap[w.heap.size + 1]? = some (.loop (rec .ready none)) := by
    have := World.alloc_heap_new (w.alloc (.deferred (some []))) (.loop (rec .ready none))
    rw [hW1] at this
    simpa using this
  have hK1 : W1.heap[w.heap.size]? = some (.deferred (some [])) := by
    rw [← hW1]
    exact (Below.heap_alloc _ _ _ (by simp)).trans (World.alloc_heap_new w _)
  have hI1 : I [] W1 := by rw [← hW1]; exact (hI _).alloc _ _ ((hI _).alloc _ _ h0)
  have hdr : ∀ (W : World) (q k : Nat) (o : Obj), W.heap[k]? = some o → (W.drewN q).heap[k]? = some o := fun W q k o h => h
  refine ⟨w.heap.size + 1, [{ target := .collected w.heap.size, args := #[] }], W1, { target := .fn (.func gf) lb, args := #[.func (.yield (w.heap.size + 1)) #[] #[]] }, W1, gf,
    #[.func (.yield (w.heap.size + 1)) #[] #[]] ++ lb, W1, ?_, ?_, ?_, ?_, fun _ => h1, ?_⟩
  · rw [← hW1, hrec]
    exact run_enterLoop_outer _ _ _ _ _
  · simp only [resolve, hg]
    simp [go_sem]
  · intro f' hf'
    simp [Target.leads] at hf'
    subst hf'
    exact hFg
  · simp [invoke, go_sem, eg]
  · refine (hseq (w.heap.size + 1)
      (fun pre W => I pre W ∧ W.heap[w.heap.size + 1]? = some (.loop (rec .ready none)) ∧ W.heap[w.heap.size]? = some (.deferred (some [])))
      (fun pre W => ∃ c, Ix c pre W ∧ W.heap[w.heap.size + 1]? = some (.loop (rec .done (some c))) ∧ W.heap[w.heap.size]? = some (.deferred (some []))) W1 ?_ ?_ (fun s W h => hK s W h.1) ?_ ⟨hI1, hL1, hK1⟩).mono ?_
    · exact fun s W q hs => ⟨(hI s).draw W q hs.1, hdr _ _ _ _ hs.2.1, hdr _ _ _ _ hs.2.2⟩
    · rintro s W q ⟨c, hc, hl, hk⟩
      exact ⟨c, (hIx c s).draw W q hc, hdr _ _ _ _ hl, hdr _ _ _ _ hk⟩
    · rintro pre x W ⟨hi, hl, hk⟩ hlen
      have hlt : w.heap.size + 1 < W.heap.size := (Array.getElem?_eq_some_iff.1 hl).1
      have hy := run_yield (P := P) (args := encs x) hl (by rw [hrec]; exact hps x)
      rw [hrec] at hy
      obtain ⟨busy, hbusy⟩ : ∃ busy, busy = Obj.loop { rec .ready none with state := .busy } := ⟨_, rfl⟩
      refine ⟨fn, _, assign, body, hy, roundIn_of_wpIn hfn (hassign _ x W _ ⟨_, run_beginRound hl (by rw [hrec]), ?_⟩)⟩
      rw [← hbusy]
      have hl2 : (W.putObj (w.heap.size + 1) busy).heap[w.heap.size + 1]? = some busy := World.putObj_heap_same hlt
      have hk2 : (W.putObj (w.heap.size + 1) busy).heap[w.heap.size]? = some (.deferred (some [])) := (World.putObj_heap_other (by omega)).trans hk
      have hbc : busy.isCells = false := by rw [hbusy]; rfl
      refine wpIn_mono (hbody _ pre x _ ((hI _).put _ _ _ _ hi (by omega) hl rfl) hlen (by simp; omega)) ?_
      have fin : ∀ (jump : Option Code) (W3 : World), KeepsOthers (W.putObj (w.heap.size + 1) busy) W3 →
          (Instr.endRound (w.heap.size + 1) jump).run P W3 = .ok (.bool jump.isNone) (W3.putObj (w.heap.size + 1) (.loop (rec (if jump.isNone then .ready else .done) jump))) ∧
          W3.heap[w.heap.size + 1]? = some busy ∧
          (W3.putObj (w.heap.size + 1) (.loop (rec (if jump.isNone then .ready else .done) jump))).heap[w.heap.size + 1]? = some (.loop (rec (if jump.isNone then .ready else .done) jump)) ∧
          (W3.putObj (w.heap.size + 1) (.loop (rec (if jump.isNone then .ready else .done) jump))).heap[w.heap.size]? = some (.deferred (some [])) := fun jump W3 hk3 => by
        have hl3 := hk3.same _ _ hl2 hbc
        have hl4 := hl3
        rw [hbusy] at hl3
        have hrun := run_endRound (P := P) jump hl3
        rw [hrec] at hrun ⊢
        exact ⟨hrun, hl4, World.putObj_heap_same (Array.getElem?_eq_some_iff.1 hl4).1, (World.putObj_heap_other (by omega)).trans (hk3.same _ _ hk2 rfl)⟩
      rintro e a3 W3 hp
      cases e with
      | normal =>
        obtain ⟨hk3, _, hi3⟩ := hp
        obtain ⟨hr, hl3, hl4, hk4⟩ := fin none W3 hk3
        exact ⟨_, _, hr, .inl ⟨rfl, (hI _).put _ _ _ _ hi3 (by omega) hl3 hbc, hl4, hk4⟩⟩
      | ret =>
        obtain ⟨hk3, hi3⟩ := hp
        obtain ⟨hr, hl3, hl4, hk4⟩ := fin (some .ret) W3 hk3
        exact ⟨_, _, hr, .inr ⟨rfl, .ret, (hIx _ _).put _ _ _ _ hi3 (by omega) hl3 hbc, hl4, hk4⟩⟩
      | exit id =>
        obtain ⟨hk3, hi3⟩ := hp
        obtain ⟨hr, hl3, hl4, hk4⟩ := fin (some (.exit id)) W3 hk3
        exact ⟨_, _, hr, .inr ⟨rfl, .exit id, (hIx _ _).put _ _ _ _ hi3 (by omega) hl3 hbc, hl4, hk4⟩⟩
      | goto t =>
        obtain ⟨hk3, hi3⟩ := hp
        obtain ⟨hr, hl3, hl4, hk4⟩ := fin (some (.goto t)) W3 hk3
        exact ⟨_, _, hr, .inr ⟨rfl, .goto t, (hIx _ _).put _ _ _ _ hi3 (by omega) hl3 hbc, hl4, hk4⟩⟩
      | panic ch => exact hp.elim
      | outgrown => exact hp.elim
    · rintro e W2 ⟨⟨v, rfl⟩, (⟨hi, hl, hk⟩ | ⟨pre, hSp, c, hi, hl, hk⟩)⟩
      · have hrun := run_endLoop (P := P) hl (by rw [hrec]; simp)
        rw [hrec] at hrun
        exact ⟨none, _, hrun, hdone _ _ (Nat.le_refl _) ((hI _).put _ _ _ _ hi (by omega) hl rfl) ((World.putObj_heap_other (by omega)).trans hk)⟩
      · have hrun := run_endLoop (P := P) hl (by rw [hrec]; simp)
        rw [hrec] at hrun
        exact ⟨some c, _, hrun, hstop _ c pre _ (Nat.le_refl _) hSp ((hIx c _).put _ _ _ _ hi (by omega) hl rfl) ((World.putObj_heap_other (by omega)).trans hk)⟩
end
end Go.Proofs.YtimblabaeclhpaaGreat

/- WALK: the kids of a node: groups.kids, its iterator, slices.Collect of it. -/
namespace Go.Proofs.YtimblabaeclhpaaGreat
open Go.RowKit Go.Shelf
attribute [local go_sem] Oper.semAt_some
def kidsR (l : List Nd) (to : Nat) : Nat → Nat → List Nat
  | 0, _ => []
  | f + 1, k => if k < to then k :: kidsR l to f (endOf l k) else []
def kidsFrom (l : List Nd) (to k : Nat) : List Nat := kidsR l to (to - k) k
theorem kidsR_stop {l : List Nd} {to k : Nat} (h : ¬ k < to) : ∀ f, kidsR l to f k = []
  | 0 => rfl
  | _ + 1 => if_neg h
theorem kidsR_fuel {l : List Nd} {to : Nat} : ∀ (f g k : Nat), to ≤ f + k → to ≤ g + k → kidsR l to f k = kidsR l to g k
  | 0, g, k, h, _ => by rw [kidsR_stop (by omega), kidsR_stop (by omega)]
  | f + 1, 0, k, _, h => by rw [kidsR_stop (by omega), kidsR_stop (by omega)]
  | f + 1, g + 1, k, h1, h2 => by
    by_cases h : k < to
    · rw [kidsR, kidsR, if_pos h, if_pos h]
      have := endOf_gt l k
      rw [kidsR_fuel f g (endOf l k) (by omega) (by omega)]
    · rw [kidsR_stop h, kidsR_stop h]
theorem kidsFrom_s {l : List Nd} {to k : Nat} (h : k < to) : kidsFrom l to k = k :: kidsFrom l to (endOf l k) := by
  unfold kidsFrom
  have := endOf_gt l k
  rw [kidsR_fuel (to - k) (to - k + 1) k (by omega) (by omega), kidsR, if_pos h, kidsR_fuel (to - k) (to - endOf l k) (endOf l k) (by omega) (by omega)]
theorem kidsFrom_stop {l : List Nd} {to k : Nat} (h : ¬ k < to) : kidsFrom l to k = [] := kidsR_stop h _
def kidsFr (node : Int) : Nat := if 0 ≤ node then node.toNat + 1 else 0
def kidsTo (l : List Nd) (node : Int) : Nat := if 0 ≤ node then endOf l node.toNat else l.length
/-- The kids of a node, or, for a number below 0, the groups. -/
def kidsOf (l : List Nd) (node : Int) : List Nat := kidsFrom l (kidsTo l node) (kidsFr node)
/-- What the iterator finds: the list and the node, each in its box. -/
structure KK (l : List Nd) (A : Option Addr) (c : Nat) (node : Int) (n0 b1 b2 : Nat) (W : World) : Prop where
  l_ : W.heap[b1]? = some (.cells #[.slice A l.length c] 28 (0, 0))
  n_ : W.heap[b2]? = some (.cells #[.int .i64 node] 3 (0, 0))
  nds : Nds W n0 A l
set_option maxRecDepth 100000 in
set_option maxHeartbeats 2000000 in
theorem kids_seq (l : List Nd) (node : Int) (hnode : node < l.length) (hnl : -9223372036854775808 ≤ node) (hl : l.length ≤ 1000000) (A : Option Addr) (c n0 b1 b2 n : Nat) :
    SeqD Fence.wide n Tryz.prog 72 #[.pointer (some ⟨b1, 0, none⟩), .pointer (some ⟨b2, 0, none⟩)] (fun k : Nat => #[.int .i64 (k : Int)]) (KK l A c node n0 b1 b2) (kidsOf l node) := by
  intro lid J Jx W hJd hJxd hJK hY hj
  have hK := hJK [] W hj
  have p1 := cell_of_one hK.l_
  have p2 := cell_of_one hK.n_
  have hfw : ∀ f, Fence.wide.fn f := fun _ => trivial
  have hfd : Fence.wide.depth = none := rfl
  have hdd : ∀ k : Nat, (Fence.wide.depth.isSome = true → 1 ≤ k) := fun k h => by cases h
  have HEND := hid fun (i : Nat) (hi : i < l.length) (W1 : World) (h : Nds W1 n0 A l) => end_any l i hi hl A c W1 n0 h
  obtain ⟨N, hN⟩ : ∃ N, N = l.length := ⟨_, rfl⟩
  rw [← hN] at hnode hl p1 HEND
  have HN := hid hN; have HK := hid hK; have HJD := hid hJd; have HJXD := hid hJxd; have HJK := hid hJK; have HY := hid hY; have HJ := hid hj
  clear hN hK hJd hJxd hJK hY hj
  refine callsIn_of_wp Tryz.func72 rfl trivial ?_ rfl
  simp only [Tryz.ntmps72, List.size_toArray, List.length_cons, List.length_nil, Nat.reduceAdd, Nat.reduceSub, Array.replicate_succ, Array.replicate_zero, List.push_toArray, List.append_toArray, List.nil_append, List.cons_append]
  by_cases h0 : 0 ≤ node
  · obtain ⟨i, rfl⟩ : ∃ i : Nat, node = i := ⟨node.toNat, by omega⟩
    have hi : i < N := by omega
    have hfr : kidsOf l (i : Int) = kidsFrom l (endOf l i) (i + 1) := by unfold kidsOf kidsTo kidsFr; rw [if_pos h0, if_pos h0]; rfl
    have hd : decide ((0 : Int) ≤ (i : Int)) = true := decide_eq_true h0
    have hle := endOf_le (l := l) (i := i) (by rw [← HN.out]; exact hi)
    rw [← HN.out] at hle
    obtain ⟨to, hto⟩ : ∃ to, to = endOf l i := ⟨_, rfl⟩
    rw [← hto] at hle hfr
    have HFR := hid hfr
    have HEI := hid fun q => HEND.out i hi (W.drewN q) (HK.out.nds.below (below_drewN (Below.refl _ _) _))
    rw [← hto] at HEI
    clear hfr hto h0
    have q0 : IntKind.i64.wrap ((i : Int) + 1) = (i : Int) + 1 := IntWalk.i64_in _ (by omega)
    gi_wp2
    gi_quiet (fail)
    gi_wp2
    gi_quiet ((gi_at_call 73; go_must (exact callsIn_wide.2 ((HEI.out _).mono fun e w' h => ⟨h.1, by obtain ⟨_, n5, hw⟩ := h; exact ⟨_, by rw [hw, World.drewN_drewN, Nat.add_assoc]⟩⟩))))
    try rw [q0]
    clear q0
    gi_wp2
    gi_loopw [6] (fun kv wr => ∃ (k : Nat) (pre : List Nat), kv = .int .i64 k ∧ Hid (pre ++ kidsFrom l to k = kidsOf l (i : Int)) ∧ Hid (J pre wr)) (fun kv _ => to - (intOf kv).toNat)
    case atStart => exact ⟨i + 1, [], by go_num, HFR.out.symm, HJD.out _ _ _ (HJD.out _ _ _ HJ.out)⟩
    case round =>
      obtain ⟨k, pre, rfl, hP, hJ⟩ := hrel
      by_cases hk : k < to
      · have hKK := HJK.out pre wr hJ.out
        have r1 := cell_of_one hKK.l_
        have r2 := cell_of_one hKK.n_
        rw [← HN.out] at r1
        have hks := kidsFrom_s (l := l) hk
        have hkP := hP.out
        rw [hks] at hkP
        have hpx : pre ++ [k] <+: kidsOf l (i : Int) := ⟨kidsFrom l to (endOf l k), by rw [← hkP, List.append_assoc]; rfl⟩
        have hgt := endOf_gt l k
        obtain ⟨fn, tmps, assign, body, hy, hR⟩ := HY.out pre k wr hJ.out hpx
        obtain ⟨k2, hk2⟩ : ∃ k2, k2 = endOf l k := ⟨_, rfl⟩
        rw [← hk2] at hgt hkP
        have HNX : Hid ((pre ++ [k]) ++ kidsFrom l to k2 = kidsOf l (i : Int)) := by rw [List.append_assoc]; exact hkP
        have HEK := hid fun (W1 : World) h => HEND.out k (by omega) W1 h
        rw [← hk2] at HEK
        have HPX := hid hpx
        clear hKK hks hkP hpx hk2 hP
        gi_wp2_with (first | ((first | refine ⟨hdd _, ?_⟩ | refine ⟨trivial, hdd _, ?_⟩ | skip); refine hR.mono ?_; clear hR; rintro e w5 (⟨rfl, hj5⟩ | ⟨rfl, hx5⟩); focus (have hKK := HJK.out _ _ hj5; have r3 := cell_of_one hKK.l_; rw [← HN.out] at r3; have HE5 := hid (HEK.out w5 hKK.nds); have HJ5 := hid fun q => HJD.out _ _ q hj5; clear hKK hj5 r1 r2 hy)) | ((first | refine ⟨trivial, hdd _, ?_⟩ | refine ⟨hdd _, ?_⟩ | skip); gi_at_call 73; refine (callsIn_wide.2 HE5.out).mono ?_; rintro e w6 ⟨rfl, q6, rfl⟩))
        · go_roundw
          case rel => exact ⟨k2, pre ++ [k], by go_num, HNX.out, HJ5.out _⟩
          case measure => simp [intOf]; omega
        · exact bodyPost_ret (v := .tuple #[]) (by simp [results, Tryz.results72, go_sem]) rfl ⟨⟨_, rfl⟩, .inr ⟨_, HPX.out, hx5⟩⟩
      · have hst := kidsFrom_stop (l := l) hk
        have hkP := hP.out
        rw [hst, List.append_nil] at hkP
        have HX := hid hkP
        clear hst hkP hP
        gi_wp2
        go_end0
        exact ⟨⟨_, rfl⟩, .inl (by rw [← HX.out]; exact hJ.out)⟩
  · have hd : decide ((0 : Int) ≤ node) = false := decide_eq_false h0
    have hfr : kidsOf l node = kidsFrom l N 0 := by unfold kidsOf kidsTo kidsFr; rw [if_neg h0, if_neg h0, HN.out]
    have HFR := hid hfr
    clear hfr h0
    gi_wp2
    gi_quiet (fail)
    gi_wp2
    gi_loopw [6] (fun kv wr => ∃ (k : Nat) (pre : List Nat), kv = .int .i64 k ∧ Hid (pre ++ kidsFrom l N k = kidsOf l node) ∧ Hid (J pre wr)) (fun kv _ => N - (intOf kv).toNat)
    case atStart => exact ⟨0, [], by go_num, HFR.out.symm, HJD.out _ _ _ HJ.out⟩
    case round =>
      obtain ⟨k, pre, rfl, hP, hJ⟩ := hrel
      by_cases hk : k < N
      · have hKK := HJK.out pre wr hJ.out
        have r1 := cell_of_one hKK.l_
        have r2 := cell_of_one hKK.n_
        rw [← HN.out] at r1
        have hks := kidsFrom_s (l := l) hk
        have hkP := hP.out
        rw [hks] at hkP
        have hpx : pre ++ [k] <+: kidsOf l node := ⟨kidsFrom l N (endOf l k), by rw [← hkP, List.append_assoc]; rfl⟩
        have hgt := endOf_gt l k
        obtain ⟨fn, tmps, assign, body, hy, hR⟩ := HY.out pre k wr hJ.out hpx
        obtain ⟨k2, hk2⟩ : ∃ k2, k2 = endOf l k := ⟨_, rfl⟩
        rw [← hk2] at hgt hkP
        have HNX : Hid ((pre ++ [k]) ++ kidsFrom l N k2 = kidsOf l node) := by rw [List.append_assoc]; exact hkP
        have HEK := hid fun (W1 : World) h => HEND.out k (by omega) W1 h
        rw [← hk2] at HEK
        have HPX := hid hpx
        clear hKK hks hkP hpx hk2 hP
        gi_wp2_with (first | ((first | refine ⟨hdd _, ?_⟩ | refine ⟨trivial, hdd _, ?_⟩ | skip); refine hR.mono ?_; clear hR; rintro e w5 (⟨rfl, hj5⟩ | ⟨rfl, hx5⟩); focus (have hKK := HJK.out _ _ hj5; have r3 := cell_of_one hKK.l_; rw [← HN.out] at r3; have HE5 := hid (HEK.out w5 hKK.nds); have HJ5 := hid fun q => HJD.out _ _ q hj5; clear hKK hj5 r1 r2 hy)) | ((first | refine ⟨trivial, hdd _, ?_⟩ | refine ⟨hdd _, ?_⟩ | skip); gi_at_call 73; refine (callsIn_wide.2 HE5.out).mono ?_; rintro e w6 ⟨rfl, q6, rfl⟩))
        · go_roundw
          case rel => exact ⟨k2, pre ++ [k], by go_num, HNX.out, HJ5.out _⟩
          case measure => simp [intOf]; omega
        · exact bodyPost_ret (v := .tuple #[]) (by simp [results, Tryz.results72, go_sem]) rfl ⟨⟨_, rfl⟩, .inr ⟨_, HPX.out, hx5⟩⟩
      · have hst := kidsFrom_stop (l := l) hk
        have hkP := hP.out
        rw [hst, List.append_nil] at hkP
        have HX := hid hkP
        clear hst hkP hP
        gi_wp2
        go_end0
        exact ⟨⟨_, rfl⟩, .inl (by rw [← HX.out]; exact hJ.out)⟩
end Go.Proofs.YtimblabaeclhpaaGreat

/- WALK: slices.Collect of the kids of a node. -/
namespace Go.Proofs.YtimblabaeclhpaaGreat
open Go.RowKit Go.Shelf
theorem own_cap {w : World} {B n c : Nat} {e : TypeId} {A : Option Addr} {xs : List Value} (h : w.ownsRow B e 1 (.slice A n c) n xs) : n ≤ c := by
  rcases h.2 with ⟨h2, h3⟩ | ⟨g, cap, cur, hv, _, _, h3, _⟩
  · omega
  · injection hv with _ _ h4
    omega
theorem run_append_fresh {P : Program} (w : World) (base : Nat) (t ty e : TypeId) (i : TypeInfo) (z : Value) (bytes : Nat) (ht : P.underlying t = some (.slice e)) (hi : P.info? e = some i) (hz : i.zero = some z)
    (hsize : i.size = 1) (hby : i.bytes = bytes) (hzs : z.cells.size = 1)
    (v : Value) (n : Nat) (xs : List Value) (hown : w.ownsRow base e 1 v n xs)
    (a : Addr) (c : Nat) (y : Value) (hy : w.cell? a = some y) (hy1 : y.oneCell' = true)
    (h63 : n + 1 ≤ maxLen) (hbytes : (n + 1) * bytes ≤ 140737488355328) (hbase : base ≤ w.heap.size) :
    ∃ v' w', (Builtin.append_ #[t, t] ty #[v, .slice (some a) 1 c]).run P w = .ok v' w' ∧ w'.ownsRow base e 1 v' (n + 1) (xs ++ [y]) ∧ w.grownBy w' v.ownBlock ∧ ∀ k, v'.ownBlock = some k → v.ownBlock = some k ∨ w.heap.size ≤ k := by
  have hnews : ∀ j u, [y][j]? = some u → w.cell? (a.add j) = some u := fun j u hu => by
    match j, hu with
    | 0, hu => simp at hu; subst hu; simpa [Addr.add] using hy
  obtain ⟨v', w', hr0, h1, h2, _⟩ := run_append_own (P := P) w base t ty e i z 1 bytes ht hi hz hsize hby hzs (by decide) v n xs hown a 1 c [y] rfl hnews (by intro u hu; simp at hu; subst hu; exact hy1) h63 hbytes hbase
  refine ⟨v', w', hr0, h1, h2, ?_⟩
  have hn63 : n + 1 ≤ 9223372036854775807 := by simp only [maxLen] at h63; omega
  subst hby
  rcases hown.2 with ⟨rfl, rfl⟩ | ⟨g, cap, cur, rfl, hbg, hg, hnc, hcm, hcs, htake⟩
  · have hr := run_append_nil (P := P) w t ty e i z ht hi hz a 1 c [y] (by rw [hsize]; rfl) hnews (by omega) (by omega) (by omega)
    rw [hr0] at hr
    injection hr with hv _
    subst hv
    intro k hk
    have hk2 : w.heap.size = k := by injection hk
    exact .inr (by omega)
  · by_cases hroom : n + 1 ≤ cap
    · have hr := run_append_room (P := P) w t ty e i ht hi g n cap cur hg a 1 c [y] (by rw [hsize]; rfl) hnews (by intro u hu; simp at hu; subst hu; exact hy1) hroom (by rw [hsize, hcs]; simp; omega)
      rw [hr0] at hr
      injection hr with hv _
      subst hv
      exact fun k hk => .inl hk
    · have holds : ∀ j u, xs[j]? = some u → w.cell? ((⟨g, 0, none⟩ : Addr).add j) = some u := hown.cells (g := g) rfl
      have hr := run_append_grow (P := P) w t ty e i z ht hi hz ⟨g, 0, none⟩ n cap xs (by rw [hsize]; exact hown.1) holds a 1 c [y] (by rw [hsize]; rfl) hnews (by omega) (by omega) (growslice_fits (by omega) hbytes)
      rw [hr0] at hr
      injection hr with hv _
      subst hv
      intro k hk
      have hk2 : w.heap.size = k := by injection hk
      exact .inr (by omega)
theorem app_in {F : Fence} {m : Nat} {P : Program} {w : World} {ops : Array Oper} {rest : List Oper} {o : Oper} {a : Act} {Q : Exit → Act → World → Prop}
    (hgd : o.guard = none) (s x : Operand) {t e : TypeId} {z : Value} {bytes : Nat} (ht : P.underlying t = some (.slice e)) (hinfo : (P.info? e).map (fun i => (i.zero, i.size, i.bytes)) = some (some z, 1, bytes)) (hz1 : z.cells.size = 1) (hb8 : bytes ≤ 64)
    (ho : o.op = .call { callee := .builtin .append, args := #[s, x], argTypes := #[t, t] })
    (base : Nat) (v : Value) (n : Nat) (xs : List Value) (hs : a.eval s = v) (hown : w.ownsRow base e 1 v n xs)
    (ad : Addr) (y : Value) (hx : a.eval x = .slice (some ad) 1 1) (hy : w.cell? ad = some y) (hy1 : y.oneCell' = true) (hn : n ≤ 1000000000000) (hbase : base ≤ w.heap.size)
    (h : ∀ v' w', w'.ownsRow base e 1 v' (n + 1) (xs ++ [y]) → w.grownBy w' v.ownBlock → (∀ k, v'.ownBlock = some k → v.ownBlock = some k ∨ w.heap.size ≤ k) → wpListIn F m P ops Q rest (a.put o.dst v') w') : wpListIn F m P ops Q (o :: rest) a w := by
  obtain ⟨i0, hi, hz0, hzz, hz2⟩ := info_parts hinfo
  have hb : (n + 1) * bytes ≤ 140737488355328 := by
    have := Nat.mul_le_mul_left (n + 1) hb8
    omega
  obtain ⟨v', w', hrun, r1, r2, r3⟩ := run_append_fresh (P := P) w base t o.type e i0 z bytes ht hi hz0 hzz hz2 hz1 v n xs hown ad 1 y hy hy1 (by unfold maxLen; omega) hb hbase
  refine wpListIn_plain hgd fun K hK' => ?_
  unfold Oper.wpIn
  refine ⟨?_, ?_⟩
  · simp [Oper.about, ho, resolve, Target.leads, Sem.run_pure]
  · rw [Oper.semAt_plain F _ _ (by rw [ho]; intro c hc'; cases hc')]
    simp [execOp, ho, resolve, invoke, builtin, hs, hx, hrun, Result.andThen]
    exact hK' _ _ (h v' w' r1 r2 r3)
attribute [local go_sem] Oper.semAt_some
def nz (l : List Nat) : List Int := l.map fun x : Nat => (x : Int)
theorem nz_len (l : List Nat) : (nz l).length = l.length := by simp [nz]
set_option maxRecDepth 100000 in
theorem kids_any (A : Option Addr) (N c : Nat) (node : Int) (w : World) :
    Calls Tryz.prog 55 #[.slice A N c, .int .i64 node] w fun e w' => e = .returned (.func (.func 72) #[] #[.pointer (some ⟨w.heap.size, 0, none⟩), .pointer (some ⟨w.heap.size + 1, 0, none⟩)]) ∧
      w' = (w.alloc (.cells #[.slice A N c] 28)).alloc (.cells #[.int .i64 node] 3) := by
  go_enter Tryz.func55, Tryz.ntmps55
  go_wp2_with fail
  go_ret
  exact ⟨rfl, rfl⟩
theorem kids_kk {l : List Nd} {A : Option Addr} {c n0 : Nat} {node : Int} {w : World} (r : Nds w n0 A l) (hn : n0 ≤ w.heap.size) :
    KK l A c node n0 w.heap.size (w.heap.size + 1) ((w.alloc (.cells #[.slice A l.length c] 28)).alloc (.cells #[.int .i64 node] 3)) where
  l_ := (Below.heap_alloc _ _ _ (by simp)).trans (heap_alloc_new _ _)
  n_ := by
    have := heap_alloc_new (w.alloc (.cells #[.slice A l.length c] 28)) (.cells #[.int .i64 node] 3)
    simpa using this
  nds := r.below ((((Below.refl _ _).alloc (Nat.le_refl _) _).alloc (by simp) _).mono hn)
/-- What Collect keeps: the list's cell, the list. -/
structure CM (w : World) (s : List Nat) (v : Value) (W : World) : Prop where
  c_ : W.heap[w.heap.size]? = some (.cells #[v] 148 (0, 0))
  own : W.ownsRow (w.heap.size + 3) 3 1 v s.length (ints (nz s))
  bel : Below w.heap.size w W
theorem CM.grown {w W W' : World} {s : List Nat} {v : Value} {row : Option Nat} (h : CM w s v W) (hg : W.grownBy W' row) (hr : ∀ r, row = some r → w.heap.size + 1 ≤ r ∧ ∃ o : Obj, W.heap[r]? = some o ∧ o.isCells = false) : CM w s v W' := by
  have hz := h.bel.size
  refine ⟨(hg.block _ (lt_of_block h.c_) fun e => by have := (hr _ e.symm).1; omega).trans h.c_, ?_, h.bel.grown hg hz fun k e => by have := (hr k e).1; omega⟩
  obtain ⟨h1, h2⟩ := h.own
  refine ⟨h1, ?_⟩
  rcases h2 with h2 | ⟨g, cap, cur, hv, hgb, hh, rest⟩
  · exact .inl h2
  · refine .inr ⟨g, cap, cur, hv, hgb, (hg.block g (lt_of_block hh) fun e => ?_).trans hh, rest⟩
    obtain ⟨_, o, h4, h5⟩ := hr g e.symm
    rw [hh] at h4
    injection h4 with h4
    rw [← h4] at h5
    cases h5
theorem CM.step {w W W6 : World} {s : List Nat} {v v' : Value} {k : Nat} (h : CM w s v W) (hz : w.heap.size + 3 ≤ W.heap.size)
    (hown : W6.ownsRow (w.heap.size + 3) 3 1 v' (s.length + 1) (ints (nz s) ++ [.int .i64 (k : Int)])) (hg : (W.alloc (.cells #[.int .i64 (k : Int)] 3)).grownBy W6 v.ownBlock) :
    KeepsOthers W (W6.setCell ⟨w.heap.size, 0, none⟩ v') ∧ CM w (s ++ [k]) v' (W6.setCell ⟨w.heap.size, 0, none⟩ v') := by
  have hoa := h.own.alloc (.cells #[.int .i64 (k : Int)] 3)
  have hlt := hoa.lt
  refine ⟨?_, ?_, ?_, ?_⟩
  · refine ((KeepsOthers.alloc W _).trans (KeepsOthers.of_grownBy hg fun j o hj ho => ?_)).trans (KeepsOthers.setCell _ _ _)
    rcases hoa.2 with ⟨h4, _⟩ | ⟨g, cap, cur, hv, _, hh, _⟩
    · rw [h4] at hj; cases hj
    · rw [hv] at hj
      injection hj with hj
      rw [← show g = j from hj, hh] at ho
      injection ho with ho
      rw [← ho]; rfl
  · refine one_setCell (v := v) ?_
    rw [hg.block _ (by simp; omega) fun e => by have := (hlt _ e.symm).1; omega]
    exact (Below.heap_alloc _ _ _ (by omega)).trans h.c_
  · rw [List.length_append]
    have := ownsRow_setCell_other hown (a := ⟨w.heap.size, 0, none⟩) (fun he => by have := (hown.lt _ he).1; simp at this; omega) v'
    have e : ints (nz (s ++ [k])) = ints (nz s) ++ [.int .i64 (k : Int)] := by unfold nz; rw [List.map_append, ints_append]; rfl
    rw [e]
    exact this
  · have h1 : Below w.heap.size w (W.alloc (.cells #[.int .i64 (k : Int)] 3)) := h.bel.alloc h.bel.size _
    exact (below_app h1 hoa hg (by omega) (by simp; omega)).setCell (Nat.le_refl _) _
theorem CM.stands {w : World} {s : List Nat} : Stands (w.heap.size + 1) (fun W => ∃ v, CM w s v W) :=
  Stands.of_grown fun _ _ _ ⟨v, h⟩ hg hr => ⟨v, h.grown hg hr⟩
theorem kidsR_len {l : List Nd} {to : Nat} : ∀ f k, (kidsR l to f k).length ≤ f
  | 0, _ => Nat.zero_le _
  | f + 1, k => by
    unfold kidsR
    split
    · have := kidsR_len (l := l) (to := to) f (endOf l k)
      rw [List.length_cons]; omega
    · exact Nat.zero_le _
theorem kidsOf_len {l : List Nd} {node : Int} (h : node < l.length) : (kidsOf l node).length ≤ l.length := by
  unfold kidsOf kidsFrom
  have h1 := kidsR_len (l := l) (to := kidsTo l node) (kidsTo l node - kidsFr node) (kidsFr node)
  have h2 : kidsTo l node ≤ l.length := by
    unfold kidsTo
    split
    · exact endOf_le (by omega)
    · exact Nat.le_refl _
  omega
set_option maxRecDepth 100000 in
set_option maxHeartbeats 2000000 in
theorem appSeq_any (l : List Nd) (node : Int) (hnode : node < l.length) (hnl : -9223372036854775808 ≤ node) (hl : l.length ≤ 1000000) (A : Option Addr) (c n0 b1 b2 : Nat) (w : World) (hK : KK l A c node n0 b1 b2 w) (hn0 : n0 ≤ w.heap.size) :
    Calls Tryz.prog 78 #[.slice none 0 0, .func (.func 72) #[] #[.pointer (some ⟨b1, 0, none⟩), .pointer (some ⟨b2, 0, none⟩)]] w fun e w' =>
      ∃ v, e = .returned v ∧ w'.ownsRow w.heap.size 3 1 v (kidsOf l node).length (ints (nz (kidsOf l node))) ∧ Below w.heap.size w w' := by
  refine (callsIn_wide (n := 8)).1 ?_
  have hlen := kidsOf_len hnode
  have hseq := kids_seq l node hnode hnl hl A c n0 b1 b2 7
  have hK1 : ∀ s W, (∃ v, CM w s v W) → KK l A c node n0 b1 b2 W := fun s W ⟨v, h⟩ =>
    ⟨(h.bel.block _ (lt_of_block hK.l_)).trans hK.l_, (h.bel.block _ (lt_of_block hK.n_)).trans hK.n_, hK.nds.below (h.bel.mono hn0)⟩
  obtain ⟨xs, hxs⟩ : ∃ xs, xs = kidsOf l node := ⟨_, rfl⟩
  rw [← hxs] at hlen hseq ⊢
  clear hxs
  refine callsIn_of_wp_marks Tryz.func78 rfl trivial ?_ rfl
  simp only [Tryz.ntmps78, List.size_toArray, List.length_cons, List.length_nil, Nat.reduceAdd, Nat.reduceSub, Array.replicate_succ, Array.replicate_zero, List.push_toArray, List.append_toArray, List.nil_append, List.cons_append]
  gi_wp2
  have hsz : (w.alloc (.cells #[.slice none 0 0] 148)).heap.size = w.heap.size + 1 := by simp
  refine range_draws rfl (by omega) (gf := 72) (lb := #[.pointer (some ⟨b1, 0, none⟩), .pointer (some ⟨b2, 0, none⟩)]) rfl trivial (enters_of Tryz.func72 (by kernel_rfl) rfl) hseq (fun _ => rfl)
    (fun s W => ∃ v, CM w s v W) (fun _ _ _ => False) (fun s => by rw [hsz]; exact CM.stands) (fun _ _ => ⟨fun _ _ h => h, fun _ _ h => h, fun _ _ _ _ h _ _ _ => h⟩) hK1
    ⟨.slice none 0 0, heap_alloc_new _ _, World.ownsRow_nil _ _ _ _, (Below.refl _ _).alloc (Nat.le_refl _) _⟩
    (fun x => { tmps := #[.slice none 0 0, .func (.func 72) #[] #[.pointer (some ⟨b1, 0, none⟩), .pointer (some ⟨b2, 0, none⟩)], .pointer (some ⟨w.heap.size, 0, none⟩), undef, .slice none 0 0, .int .i64 (x : Int), .func (.func 72) #[] #[.pointer (some ⟨b1, 0, none⟩), .pointer (some ⟨b2, 0, none⟩)], .int .i64 (x : Int), undef, undef, undef, undef, undef], defers := [] }) ?assign ?body ?done ?stop
  case assign =>
    intro l x W K hK
    gi_wp2
    exact hK
  case body =>
    rintro lid pre x W ⟨v, hm⟩ hpx hz
    have p1 := cell_of_one hm.c_
    have z1 := free_of_one hm.c_
    have hpl : pre.length ≤ 1000000 := by
      have := hpx.length_le
      simp at this
      omega
    obtain ⟨A5, c5, rfl⟩ := own_slice hm.own
    have hz3 : w.heap.size + 3 ≤ W.heap.size := by rw [hsz] at hz; omega
    have HST := hid fun (W6 : World) (v' : Value) h1 h2 => hm.step (k := x) (W6 := W6) (v' := v') hz3 h1 h2
    have hoa := hm.own.alloc (.cells #[.int .i64 (x : Int)] 3)
    have HC1 := hid fun (W6 : World) (h2 : (W.alloc (.cells #[.int .i64 (x : Int)] 3)).grownBy W6 (Value.slice A5 pre.length c5).ownBlock) => show W6.heap[w.heap.size]? = some (.cells #[.slice A5 pre.length c5] 148 (0, 0)) from
      (h2.block _ (by simp; omega) (fun e => by have := (hoa.lt _ e.symm).1; omega)).trans ((Below.heap_alloc _ _ _ (lt_of_block hm.c_)).trans hm.c_)
    clear hpx hz
    gi_wp2_with (first | (gi_at_builtin; refine app_in rfl (.tmp 8) (.tmp 10) Tryz.underlying148 Tryz.infoInt rfl (by decide) rfl (w.heap.size + 3) _ _ _ rfl hoa ⟨W.heap.size, 0, none⟩ (.int .i64 (x : Int)) rfl (cell_new1 _ _ _) rfl (by omega) (by simp; omega) ?_; intro v6 W6 hown6 hgrow6 hfr6; have HS3 := hid (HST.out _ _ hown6 hgrow6); have p2 := cell_of_one (HC1.out _ hgrow6); have z2 := free_of_one (HC1.out _ hgrow6); obtain ⟨g6, c6, rfl, hg6, hgl6⟩ := hown6.form (by omega); clear hown6 hgrow6 hfr6))
    exact ⟨HS3.out.1, trivial, _, HS3.out.2⟩
  case done =>
    rintro D W hD ⟨v, hm⟩ hK
    have p1 := cell_of_one hm.c_
    have z1 := free_of_one hm.c_
    obtain ⟨A5, c5, rfl⟩ := own_slice hm.own
    rw [hsz] at hD
    gi_wp2
    have hm2 := hm.grown (grownBy_putObj' W D (.deferred none)) (fun r e => by cases e; exact ⟨hD, _, hK, rfl⟩)
    refine ⟨by simp, .inl ⟨_, _, rfl, run_takeDeferred hK, ?_⟩⟩
    exact ⟨.slice A5 xs.length c5, by simp [results, Tryz.results78, go_sem], _, rfl, own_base hm2.own (by omega), hm2.bel⟩
  case stop =>
    rintro D cd pre W _ _ h _
    exact h.elim
set_option maxRecDepth 100000 in
theorem collect_any (l : List Nd) (node : Int) (hnode : node < l.length) (hnl : -9223372036854775808 ≤ node) (hl : l.length ≤ 1000000) (A : Option Addr) (c n0 b1 b2 : Nat) (w : World) (hK : KK l A c node n0 b1 b2 w) (hn0 : n0 ≤ w.heap.size) :
    Calls Tryz.prog 66 #[.func (.func 72) #[] #[.pointer (some ⟨b1, 0, none⟩), .pointer (some ⟨b2, 0, none⟩)]] w fun e w' =>
      ∃ v, e = .returned v ∧ w'.ownsRow w.heap.size 3 1 v (kidsOf l node).length (ints (nz (kidsOf l node))) ∧ Below w.heap.size w w' := by
  have HA := hid (appSeq_any l node hnode hnl hl A c n0 b1 b2 w hK hn0)
  clear hK
  go_enter Tryz.func66, Tryz.ntmps66
  go_wp2_with (first | (go_at_call 78; refine HA.out.mono ?_; rintro e w4 ⟨v4, rfl, ho4, hb4⟩; have HO := hid ho4; have HB := hid hb4; clear ho4 hb4))
  go_ret
  exact ⟨_, rfl, HO.out, HB.out⟩
end Go.Proofs.YtimblabaeclhpaaGreat

/- WALK: slices.Grow of nothing, slices.Concat of two rows of numbers. -/
namespace Go.Proofs.YtimblabaeclhpaaGreat
open Go.RowKit
set_option maxRecDepth 100000 in
set_option maxHeartbeats 1000000 in
theorem grow_any (n : Nat) (hn : n ≤ 10000000) (w : World) :
    Calls Tryz.prog 79 #[.slice none 0 0, .int .i64 n] w fun e w' => ∃ v, e = .returned v ∧ w'.ownsRow w.heap.size 3 1 v 0 (ints []) ∧ Below w.heap.size w w' := by
  by_cases h0 : n = 0
  · subst h0
    go_enter Tryz.func79, Tryz.ntmps79
    go_wp2_with fail
    go_ret
    exact ⟨_, rfl, World.ownsRow_nil _ _ _ _, Below.refl _ _⟩
  · obtain ⟨i0, hi, hz0, hzz, hz2⟩ := info_parts Tryz.infoInt
    have hold : (Builtin.firstCells i0.size 0 (.slice none 0 0)).run Tryz.prog w.drew = .ok #[] w.drew := run_firstCells_none w.drew i0.size 0 0 0
    have hrz : ∀ ty, (Builtin.append_ #[148, 3] ty #[.slice none 0 0, .int .i64 (n : Int)]).run Tryz.prog w =
        .ok (.slice (some ⟨w.heap.size, 0, none⟩) n (grownCap w n 0 3)) (w.drew.alloc (.cells (#[] ++ Builtin.zeroCells (Value.int .i64 0).cells n ++ Builtin.zeroCells (Value.int .i64 0).cells (grownCap w n 0 3 - n)) 3)) := fun ty => by
      have h := Lib.run_append_grow_zeros w 148 3 ty 3 i0 (.int .i64 0) .i64 .i64 Tryz.underlying148 Tryz.underlying3 hi hz0 none 0 0 [] hold n (by omega) (by omega) (by omega) (by omega) (by rw [hz2]; omega)
        (by rw [Nat.zero_add]; exact growslice_fits (by omega) (by rw [hz2]; omega))
      rw [Nat.zero_add] at h
      exact h
    have hGn : n ≤ grownCap w n 0 3 := grownCap_ge w _ _ _
    have hG63 := grownCap_le_maxLen w n 0 3 (by unfold maxLen; omega)
    obtain ⟨G, hG⟩ : ∃ G, G = grownCap w n 0 3 := ⟨_, rfl⟩
    rw [← hG] at hrz hGn hG63
    obtain ⟨cs, hcs⟩ : ∃ cs, cs = #[] ++ Builtin.zeroCells (Value.int .i64 0).cells n ++ Builtin.zeroCells (Value.int .i64 0).cells (G - n) := ⟨_, rfl⟩
    rw [← hcs] at hrz
    have hsz : cs.size = G := by
      rw [hcs]
      simp [size_zeroCells, Value.cells]
      omega
    have HS := hid hsz; have HG := hid hG63
    have q1 : (0 : Int) < (n : Int) := by omega
    clear hold hG hcs hsz hG63 hz0 hi hzz hz2
    unfold maxLen at HG
    have hg2 : G ≤ 9223372036854775807 := HG.out
    go_enter Tryz.func79, Tryz.ntmps79
    go_wp2_with (at_builtin; refine Lib.wpList_append_run _ rfl _ _ _ _ rfl _ _ rfl rfl _ _ (hrz _) ?_)
    all_goals (go_ret; exact ⟨_, rfl, ⟨by simp, .inr ⟨w.heap.size, G, cs, rfl, Nat.le_refl _, heap_alloc_new _ _, by omega, HG.out, by rw [HS.out]; simp, rfl⟩⟩, ((Below.refl _ _).alloc (Nat.le_refl _) _).drew⟩)
theorem run_append_noneC {P : Program} {w : World} (base : Nat) (t ty e : TypeId) (i : TypeInfo) (size : Nat) (ht : P.underlying t = some (.slice e)) (hi : P.info? e = some i)
    (v : Value) (n c : Nat) (xs : List Value) (hown : w.ownsRow base e size v n xs) :
    (Builtin.append_ #[t, t] ty #[v, .slice none 0 c]).run P w = .ok v w := by
  rcases hown.2 with ⟨rfl, rfl⟩ | ⟨g, cap, cur, rfl, _, _, hnc, _⟩
  · simp [Builtin.append_, run_underlying ht, sizeOf, typeInfo, hi, Builtin.lenOf, Builtin.firstCells]
  · simp [Builtin.append_, run_underlying ht, sizeOf, typeInfo, hi, Builtin.lenOf, Builtin.firstCells, hnc, storeCells]
theorem wp_rd {P : Program} {o : Oper} {a : Act} {w : World} {K : Act → World → Prop} {Q : Exit → Act → World → Prop} (s x : Operand) {t e : TypeId} {z : Value} {bytes : Nat}
    (ht : P.underlying t = some (.slice e)) (hinfo : (P.info? e).map (fun i => (i.zero, i.size, i.bytes)) = some (some z, 1, bytes)) (hz1 : z.cells.size = 1) (hb8 : bytes ≤ 64)
    (ho : o.op = .call { callee := .builtin .append, args := #[s, x], argTypes := #[t, t] })
    (base : Nat) (v : Value) (n : Nat) (l : List Int) (hs : a.eval s = v) (hown : w.ownsRow base e 1 v n (ints l))
    (A : Option Addr) (m c B : Nat) (news : List Int) (hx : a.eval x = .slice A m c) (hm : news.length = m) (hp : Rd w B A news) (hn : n + m ≤ 1000000000) (hbase : base ≤ w.heap.size)
    (h : ∀ v' w', w'.ownsRow base e 1 v' (n + m) (ints (l ++ news)) → w.grownBy w' v.ownBlock → K (a.put o.dst v') w') : o.wp P a w K Q := by
  by_cases h0 : A = none
  · subst h0
    have hm0 : m = 0 := by
      by_cases e0 : 0 < news.length
      · obtain ⟨_, e, _⟩ := hp.2 e0; cases e
      · omega
    subst hm0
    have hnil : news = [] := List.eq_nil_of_length_eq_zero hm
    subst hnil
    obtain ⟨i0, hi, hz0, hzz, hz2⟩ := info_parts hinfo
    have hr := run_append_noneC (P := P) (w := w) base t o.type e i0 1 ht hi v n c (ints l) hown
    unfold Oper.wp execOp
    simp only [ho, resolve, invoke, builtin, Sem.run_bind, Sem.run_pure, Result.andThen_ok, List.map_toArray, List.map_cons, List.map_nil, hs, hx, hr]
    exact h v w (by simpa using hown) ⟨rfl, rfl, rfl, Nat.le_refl _, fun _ _ _ => rfl⟩
  · obtain ⟨ad, rfl⟩ := Option.ne_none_iff_exists'.1 h0
    have hmm : (n + m) * bytes ≤ 140737488355328 := by
      have := Nat.mul_le_mul_left (n + m) hb8
      omega
    obtain ⟨i0, hi, hz0, hzz, hz2⟩ := info_parts hinfo
    refine wp_append_own w s x t ho base e i0 z 1 bytes ht hi hz0 hzz hz2 hz1 (by decide) v n (ints l) hs hown ad m c (ints news) hx (by simp [hm]) (fun j u hu => ?_) (by intro u hu; obtain ⟨y, _, rfl⟩ := List.mem_map.1 hu; rfl) (by unfold maxLen; omega) hmm hbase (fun v' w' a b _ => h v' w' (by rw [ints_append]; exact a) b)
    have hj := (List.getElem?_eq_some_iff.1 hu).1
    obtain ⟨ad', e, _, hcell⟩ := hp.2 (by simp at hj; omega)
    injection e with e
    subst e
    exact hcell j u hu
theorem app_rd {P : Program} {ops : Array Oper} {rest : List Oper} {o : Oper} {a : Act} {w : World} {Q : Exit → Act → World → Prop} (hgd : o.guard = none) (s x : Operand) {t e : TypeId} {z : Value} {bytes : Nat}
    (ht : P.underlying t = some (.slice e)) (hinfo : (P.info? e).map (fun i => (i.zero, i.size, i.bytes)) = some (some z, 1, bytes)) (hz1 : z.cells.size = 1) (hb8 : bytes ≤ 64)
    (ho : o.op = .call { callee := .builtin .append, args := #[s, x], argTypes := #[t, t] })
    (base : Nat) (v : Value) (n : Nat) (l : List Int) (hs : a.eval s = v) (hown : w.ownsRow base e 1 v n (ints l))
    (A : Option Addr) (m c B : Nat) (news : List Int) (hx : a.eval x = .slice A m c) (hm : news.length = m) (hp : Rd w B A news) (hn : n + m ≤ 1000000000) (hbase : base ≤ w.heap.size)
    (h : ∀ v' w', w'.ownsRow base e 1 v' (n + m) (ints (l ++ news)) → w.grownBy w' v.ownBlock → wpList P ops Q rest (a.put o.dst v') w') : wpList P ops Q (o :: rest) a w :=
  wpList_plain hgd fun _ hK => wp_rd s x ht hinfo hz1 hb8 ho base v n l hs hown A m c B news hx hm hp hn hbase fun v' w' h1 h2 => hK _ _ (h v' w' h1 h2)
/-- What has been put together of two rows. -/
def twoN (k x y : Nat) : Nat := if k = 0 then 0 else if k = 1 then x else x + y
def twoL (k : Nat) (a b : List Int) : List Int := if k = 0 then [] else if k = 1 then a else a ++ b
set_option maxRecDepth 100000 in
set_option maxHeartbeats 2000000 in
theorem concat_any (a b : List Int) (A1 A2 : Option Addr) (c1 c2 g : Nat) (ha : a.length ≤ 1000000) (hb : b.length ≤ 1000000) (w : World) (hg : g < w.heap.size)
    (p0 : w.cell? ⟨g, 0, none⟩ = some (.slice A1 a.length c1)) (p1 : w.cell? ⟨g, 1, none⟩ = some (.slice A2 b.length c2)) (ra : Rd w w.heap.size A1 a) (rb : Rd w w.heap.size A2 b) :
    Calls Tryz.prog 67 #[.slice (some ⟨g, 0, none⟩) 2 2] w fun e w' => ∃ v, e = .returned v ∧ w'.ownsRow w.heap.size 3 1 v (a ++ b).length (ints (a ++ b)) ∧ Below w.heap.size w w' := by
  obtain ⟨n, hn⟩ : ∃ n, n = a.length := ⟨_, rfl⟩
  obtain ⟨m, hm⟩ : ∃ m, m = b.length := ⟨_, rfl⟩
  rw [← hn] at p0 ha
  rw [← hm] at p1 hb
  have Hn := hid hn; have Hm := hid hm; have Ra := hid ra; have Rb := hid rb
  clear hn hm ra rb
  go_enter Tryz.func67, Tryz.ntmps67
  go_wp2_with fail
  go_loopw [3, 11] (fun sv kv wr => ∃ k : Nat, k ≤ 2 ∧ kv = .int .i64 k ∧ sv = .int .i64 (twoN k n m) ∧ w = wr) (fun _ kv _ => 2 - (intOf kv).toNat)
  case atStart => exact ⟨0, by omega, rfl, rfl, rfl⟩
  case round =>
    obtain ⟨k, hk, rfl, rfl, rfl⟩ := hrel
    by_cases h0 : k = 0
    · subst h0
      have e0 : twoN 0 n m = 0 := rfl
      have E1 : Hid (twoN 1 n m = n) := rfl
      rw [e0]
      clear e0
      have q1 : (0 : Int) ≤ (n : Int) := by omega
      go_wp2_with fail
      go_roundw
      case rel => exact ⟨1, by omega, by go_num, by rw [E1.out], by first | exact rfl | trivial⟩
      case measure => simp [intOf]
    · by_cases h1 : k = 1
      · subst h1
        have e0 : twoN 1 n m = n := rfl
        have E1 : Hid (twoN 2 n m = n + m) := rfl
        rw [e0]
        clear e0 h0
        have q1 : (0 : Int) ≤ (n : Int) + (m : Int) := by omega
        have q2 : IntKind.i64.wrap ((n : Int) + (m : Int)) = (n : Int) + (m : Int) := IntWalk.i64_in _ (by omega)
        go_wp2_with fail
        go_roundw
        case rel => exact ⟨2, by omega, by go_num, by rw [E1.out]; simp, by first | exact rfl | trivial⟩
        case measure => simp [intOf]
      · obtain rfl : k = 2 := by omega
        have e0 : twoN 2 n m = n + m := rfl
        rw [e0]
        clear e0 h0 h1 hk
        obtain ⟨M, hM⟩ : ∃ M, M = n + m := ⟨_, rfl⟩
        have hM2 : M ≤ 2000000 := by omega
        rw [← hM]
        clear hM
        have HG := hid (grow_any M (by omega) w)
        go_wp2_with (first | (go_at_call 79; refine HG.out.mono ?_; rintro e w4 ⟨v4, rfl, ho4, hb4⟩; have HO := hid ho4; have HB := hid hb4; clear ho4 hb4 HG))
        have P0 := hid fun W (hB : Below w.heap.size w W) => (hB.cell (p := ⟨g, 0, none⟩) hg).trans p0
        have P1 := hid fun W (hB : Below w.heap.size w W) => (hB.cell (p := ⟨g, 1, none⟩) hg).trans p1
        clear p0 p1
        go_loopw [6, 27] (fun vv kv wr => ∃ (k : Nat) (v : Value), k ≤ 2 ∧ kv = .int .i64 k ∧ vv = v ∧ Hid (wr.ownsRow w.heap.size 3 1 v (twoN k n m) (ints (twoL k a b))) ∧ Hid (Below w.heap.size w wr)) (fun _ kv _ => 2 - (intOf kv).toNat)
        case atStart => exact ⟨0, _, by omega, rfl, rfl, HO.out, HB.out⟩
        case round =>
          obtain ⟨k, v, hk, rfl, rfl, hO, hB⟩ := hrel
          obtain ⟨A5, c5, rfl⟩ := own_slice hO.out
          have p0 := P0.out wr hB.out
          have p1 := P1.out wr hB.out
          have hsz := hB.out.size
          by_cases h0 : k = 0
          · subst h0
            have hO2 : Hid (wr.ownsRow w.heap.size 3 1 (.slice A5 (twoN 0 n m) c5) 0 (ints [])) := hO
            have E1 : Hid (twoN 1 n m = 0 + n) := by show n = 0 + n; omega
            have E2 : Hid (twoL 1 a b = [] ++ a) := hid rfl
            have RA := hid (Ra.out.below hB.out)
            clear hO
            go_wp2_with (first | (at_builtin; refine app_rd rfl (.tmp 31) (.tmp 32) Tryz.underlying148 Tryz.infoInt rfl (by decide) rfl w.heap.size _ 0 [] rfl hO2.out A1 n c1 w.heap.size a rfl Hn.out.symm RA.out (by omega) hsz ?_; intro v6 w6 ho6 hg6; have HO6 := hid ho6; have HB6 := hid (below_app hB.out hO2.out hg6 (Nat.le_refl _) hsz); clear ho6 hg6))
            go_roundw
            case rel => exact ⟨1, _, by omega, by go_num, rfl, by rw [E1.out, E2.out]; exact HO6.out, HB6.out⟩
            case measure => simp [intOf]
          · by_cases h1 : k = 1
            · subst h1
              have hO2 : Hid (wr.ownsRow w.heap.size 3 1 (.slice A5 (twoN 1 n m) c5) n (ints a)) := hO
              have E1 : Hid (twoN 2 n m = n + m) := hid rfl
              have E2 : Hid (twoL 2 a b = a ++ b) := hid rfl
              have RB := hid (Rb.out.below hB.out)
              clear hO
              go_wp2_with (first | (at_builtin; refine app_rd rfl (.tmp 31) (.tmp 32) Tryz.underlying148 Tryz.infoInt rfl (by decide) rfl w.heap.size _ n a rfl hO2.out A2 m c2 w.heap.size b rfl Hm.out.symm RB.out (by omega) hsz ?_; intro v6 w6 ho6 hg6; have HO6 := hid ho6; have HB6 := hid (below_app hB.out hO2.out hg6 (Nat.le_refl _) hsz); clear ho6 hg6))
              go_roundw
              case rel => exact ⟨2, _, by omega, by go_num, rfl, by rw [E1.out, E2.out]; exact HO6.out, HB6.out⟩
              case measure => simp [intOf]
            · obtain rfl : k = 2 := by omega
              have hO2 : Hid (wr.ownsRow w.heap.size 3 1 (.slice A5 (twoN 2 n m) c5) (a ++ b).length (ints (a ++ b))) := by rw [List.length_append, ← Hn.out, ← Hm.out]; exact hO
              clear hO
              go_wp2_with fail
              go_ret
              exact ⟨_, rfl, hO2.out, hB.out⟩
end Go.Proofs.YtimblabaeclhpaaGreat
