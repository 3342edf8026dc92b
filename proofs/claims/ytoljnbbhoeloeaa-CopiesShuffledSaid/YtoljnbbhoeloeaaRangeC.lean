/- A RANGE OVER A FUNCTION WHOSE ITERATOR KEEPS CELLS OF ITS OWN: what the caller and the iterator owe each other, and the law for the caller. -/
import Derived.RangeFuncNested
import Derived.RangeFuncBound
import Derived.RangeFuncCalls
import Derived.RangeFuncLeaves
import Derived.OwnWalkIn
import Derived.TacticsInMore
import Derived.LoopNIn
import Derived.LoopIn
import Derived.Test.YtoljnbbhoeloeaaRowsA
import Derived.Lib.LazyBuf
namespace Go.Proofs.Ytoljnbbhoeloeaa
open Go.RowKit Go.Shelf
section
variable {α : Type}
/-- What the iterator may write, s having been handed out: at or beyond B, its box, and rows of numbers of its own. -/
def MayW (B : Nat) (blk : α → Option Nat) (s : List α) (W : World) (r : Nat) : Prop := B ≤ r ∧ ((r = B + 1 ∧ ∃ (cs : Array Value) (fz : Nat × Nat), W.heap[r]? = some (Obj.cells cs 22 fz)) ∨ ((∀ x ∈ s, blk x ≠ some r) ∧ ∃ (cs : Array Value) (fz : Nat × Nat), W.heap[r]? = some (Obj.cells cs 3 fz)))
def AbidesC (B : Nat) (blk : α → Option Nat) (J : List α → World → Prop) : Prop := ∀ s W W' row, J s W → W.grownBy W' row → (∀ r, row = some r → MayW B blk s W r) → J s W'
/-- What the caller's own invariant stands: what the iterator may write, and the book-keeping's blocks. -/
def CallerI (B : Nat) (blk : α → Option Nat) (I : List α → World → Prop) : Prop := ∀ s W W' row, I s W → W.grownBy W' row → (∀ r, row = some r → MayW B blk s W r ∨ (B ≤ r + 2 ∧ ∃ o : Obj, W.heap[r]? = some o ∧ o.isCells = false)) → I s W'
/-- What a round leaves alone: all below n₀, the block Bb, the iterator's boxes, and every row of numbers beyond B. -/
structure KeptC (n0 Bb B : Nat) (W W' : World) : Prop where
  bel : Below n0 W W'
  own : ∀ (k : Nat) (o : Obj), (k = Bb ∨ (B ≤ k ∧ (k < B + 3 ∨ ∃ (cs : Array Value) (fz : Nat × Nat), o = Obj.cells cs 3 fz))) → W.heap[k]? = some o → W'.heap[k]? = some o
theorem KeptC.trans {n0 Bb B : Nat} {a b c : World} (h : KeptC n0 Bb B a b) (k : KeptC n0 Bb B b c) : KeptC n0 Bb B a c :=
  ⟨h.bel.trans k.bel, fun i o h1 h2 => k.own i o h1 (h.own i o h1 h2)⟩
theorem KeptC.putObj {n0 Bb B l : Nat} {W : World} {o : Obj} (o' : Obj) (hn : n0 ≤ l) (hb : Bb < l) (hl : l < B) (h : W.heap[l]? = some o) : KeptC n0 Bb B W (W.putObj l o') := by
  have hsz : n0 ≤ W.heap.size := by have := (Array.getElem?_eq_some_iff.1 h).1; omega
  exact ⟨(Below.refl n0 W).grown (grownBy_putObj' W l o') hsz (fun k e => by cases e; exact hn), fun k u h1 h2 => (World.putObj_heap_other (by omega)).trans h2⟩
def SeqC (F : Fence) (n : Nat) (P : Program) (g : Nat) (lb : Array Value) (encs : α → Array Value) (blk : α → Option Nat) (Px : α → World → Prop) (n0 Bb : Nat) (S Sp : List α → Prop) (N : Nat) (w0 : World) : Prop :=
  ∀ (l : Nat) (J Jx : List α → World → Prop) (W : World), Below w0.heap.size w0 W → AbidesC W.heap.size blk J → AbidesC W.heap.size blk Jx →
    (∀ pre x W1, J pre W1 → pre.length < N → Px x W1 → W.heap.size + 3 ≤ W1.heap.size → YieldAt F (n - 1) P l (encs x) W1 fun e W' => (e = .returned (.bool true) ∧ J (pre ++ [x]) W' ∧ KeptC n0 Bb W.heap.size W1 W') ∨ (e = .returned (.bool false) ∧ Jx (pre ++ [x]) W')) →
    J [] W → CallsIn F n P g (#[.func (.yield l) #[] #[]] ++ lb) W fun e W' => (∃ v, e = .returned v) ∧ ((∃ xs, S xs ∧ J xs W') ∨ ∃ pre, Sp pre ∧ Jx pre W')
/-- A block that the iterator does not write is as it was. -/
theorem other_kept {B k : Nat} {blk : α → Option Nat} {s : List α} {W W' : World} {row : Option Nat} {o : Obj} (hk : k < B) (h : W.heap[k]? = some o) (hg : W.grownBy W' row) (hr : ∀ r, row = some r → MayW B blk s W r) : W'.heap[k]? = some o :=
  (hg.block k (Array.getElem?_eq_some_iff.1 h).1 fun e => by have := (hr k e.symm).1; omega).trans h
variable {F : Fence} {n : Nat} {P : Program}
theorem range_cells {g : Operand} {ps : Array Tmp} {assign body : Code} {Q : Exit → Act → World → Prop} {a : Act} {w : World}
    (hro : F.round = none) (h1 : 1 ≤ n) {gf : Nat} {lb : Array Value} (hg : a.eval g = .func (.func gf) #[] lb) (hFg : F.fn gf) (eg : ∀ args w, (callFunc gf args).run P w = .ok (.enter gf args) w)
    {encs : α → Array Value} {blk : α → Option Nat} {Px : α → World → Prop} {n0 Bb : Nat} {S Sp : List α → Prop} {N : Nat} {w0 : World} (hseq : SeqC F (n - 1) P gf lb encs blk Px n0 Bb S Sp N w0) (hn0 : n0 ≤ w.heap.size) (hBb : Bb < w.heap.size) (hb0 : Below w0.heap.size w0 w) (hps : ∀ x, (encs x).size = ps.size)
    (hPx : ∀ (x : α) (W : World) (l : Nat) (o o' : Obj), W.heap[l]? = some o → o.isCells = false → Px x W → Px x (W.putObj l o'))
    (I : List α → World → Prop) (Ix : Code → List α → World → Prop) (hI : CallerI (w.heap.size + 2) blk I) (hIx : ∀ c, CallerI (w.heap.size + 2) blk (Ix c)) (h0 : I [] w) (a₁ : α → Act)
    (hassign : ∀ (l : Nat) (x : α) (W : World) (K : Act → World → Prop), K (a₁ x) W →
      assign.wpIn (F.inRound l) (n - 1 - 1) P (Exit.then K (fun _ _ _ => False)) { tmps := (ps.zip (encs x)).foldl (fun t (p, v) => t.setIfInBounds p v) a.tmps, defers := [] } W)
    (hbody : ∀ (l : Nat) (pre : List α) (x : α) (W : World), I pre W → pre.length < N → Px x W → w.heap.size + 2 + 3 ≤ W.heap.size → body.wpIn (F.inRound l) (n - 1 - 1) P (ownPostK (KeptC n0 Bb (w.heap.size + 2)) I Ix (pre ++ [x]) W) (a₁ x) W)
    (hdone : ∀ (D : Nat) (xs : List α) (W : World), w.heap.size ≤ D → S xs → I xs W → W.heap[D]? = some (.deferred (some [])) → Q .normal { a with defers := { target := .collected D, args := #[] } :: a.defers } W)
    (hstop : ∀ (D : Nat) (c : Code) (pre : List α) (W : World), w.heap.size ≤ D → Sp pre → Ix c pre W → W.heap[D]? = some (.deferred (some [])) → c.wpIn F n P Q { a with defers := { target := .collected D, args := #[] } :: a.defers } W) :
    (Code.rangeFunc g ps assign body).wpIn F n P Q a w := by
  have kb : ∀ {I' : List α → World → Prop}, CallerI (w.heap.size + 2) blk I' → ∀ {s : List α} {W : World} {l : Nat} {o : Obj} (o' : Obj), w.heap.size ≤ l → I' s W → W.heap[l]? = some o → o.isCells = false → I' s (W.putObj l o') := fun hI' s W l o o' hle hs hl ho =>
    hI' s W _ (some l) hs (grownBy_putObj' W l o') fun r e => by cases e; exact Or.inr ⟨by omega, o, hl, ho⟩
  have ka : ∀ {s : List α} {W : World} (o : Obj), I s W → I s (W.alloc o) := fun o hs => hI _ _ _ none hs (World.grownBy_alloc _ o none) fun r e => by cases e
  refine wpIn_rangeFunc fun fn hfn => ?_
  rw [hro]
  obtain ⟨rec, hrec⟩ : ∃ rec : LoopState → Option Code → Loop, rec = fun st pe => { state := st, pending := pe, fn, tmps := a.tmps, params := ps, assign, body, defers := w.heap.size } := ⟨_, rfl⟩
  obtain ⟨W1, hW1⟩ : ∃ W1, (w.alloc (.deferred (some []))).alloc (.loop (rec .ready none)) = W1 := ⟨_, rfl⟩
  have hs1 : W1.heap.size = w.heap.size + 2 := by rw [← hW1]; simp
  have hL1 : W1.heap[w.heap.size + 1]? = some (.loop (rec .ready none)) := by
    have := World.alloc_heap_new (w.alloc (.deferred (some []))) (.loop (rec .ready none))
    rw [hW1] at this
    simpa using this
  have hK1 : W1.heap[w.heap.size]? = some (.deferred (some [])) := by
    rw [← hW1]
    exact (Below.heap_alloc _ _ _ (by simp)).trans (World.alloc_heap_new w _)
  have hI1 : I [] W1 := by rw [← hW1]; exact ka _ (ka _ h0)
  have hb1 : Below w0.heap.size w0 W1 := by
    rw [← hW1]
    exact hb0.trans ((((Below.refl _ w).alloc (Nat.le_refl _) _).alloc (by simp) _).mono hb0.size)
  refine ⟨w.heap.size + 1, [{ target := .collected w.heap.size, args := #[] }], W1, { target := .fn (.func gf) lb, args := #[.func (.yield (w.heap.size + 1)) #[] #[]] }, W1, gf,
    #[.func (.yield (w.heap.size + 1)) #[] #[]] ++ lb, W1, ?_, ?_, ?_, ?_, fun _ => h1, ?_⟩
  · rw [← hW1, hrec]
    exact run_enterLoop_outer _ _ _ _ _
  · simp only [resolve, hg]
    simp [go_sem]
  · intro f' hf'
    simp [Target.leads] at hf'
    subst hf'
    exact hFg
  · simp [invoke, go_sem, eg]
  · rw [← hs1] at hI hIx hbody kb
    have bk : w.heap.size + 1 < W1.heap.size := by omega
    refine (hseq (w.heap.size + 1)
      (fun pre W => I pre W ∧ W.heap[w.heap.size + 1]? = some (.loop (rec .ready none)) ∧ W.heap[w.heap.size]? = some (.deferred (some [])))
      (fun pre W => ∃ c, Ix c pre W ∧ W.heap[w.heap.size + 1]? = some (.loop (rec .done (some c))) ∧ W.heap[w.heap.size]? = some (.deferred (some []))) W1 hb1 ?_ ?_ ?_ ⟨hI1, hL1, hK1⟩).mono ?_
    · exact fun s A B row hs hg' hr => ⟨hI s A B row hs.1 hg' fun r e => Or.inl (hr r e), other_kept bk hs.2.1 hg' hr, other_kept (by omega) hs.2.2 hg' hr⟩
    · rintro s A B row ⟨c, hc, hl, hk⟩ hg' hr
      exact ⟨c, hIx c s A B row hc hg' fun r e => Or.inl (hr r e), other_kept bk hl hg' hr, other_kept (by omega) hk hg' hr⟩
    · rintro pre x W ⟨hi, hl, hk⟩ hlen hpx hsz5
      have hlt : w.heap.size + 1 < W.heap.size := (Array.getElem?_eq_some_iff.1 hl).1
      have hy := run_yield (P := P) (args := encs x) hl (by rw [hrec]; exact hps x)
      rw [hrec] at hy
      obtain ⟨busy, hbusy⟩ : ∃ busy, busy = Obj.loop { rec .ready none with state := .busy } := ⟨_, rfl⟩
      refine ⟨fn, _, assign, body, hy, roundIn_of_wpIn hfn (hassign _ x W _ ⟨_, run_beginRound hl (by rw [hrec]), ?_⟩)⟩
      rw [← hbusy]
      have hl2 : (W.putObj (w.heap.size + 1) busy).heap[w.heap.size + 1]? = some busy := World.putObj_heap_same hlt
      have hk2 : (W.putObj (w.heap.size + 1) busy).heap[w.heap.size]? = some (.deferred (some [])) := (World.putObj_heap_other (by omega)).trans hk
      have hw2 : KeptC n0 Bb W1.heap.size W (W.putObj (w.heap.size + 1) busy) := KeptC.putObj _ (by omega) (by omega) bk hl
      have hbc : busy.isCells = false := by rw [hbusy]; rfl
      refine wpIn_mono (hbody _ pre x _ (kb hI _ (by omega) hi hl rfl) hlen (hPx _ _ _ _ _ hl rfl hpx) (by simpa using hsz5)) ?_
      have fin : ∀ (jump : Option Code) (W3 : World), KeepsOthers (W.putObj (w.heap.size + 1) busy) W3 →
          (Instr.endRound (w.heap.size + 1) jump).run P W3 = .ok (.bool jump.isNone) (W3.putObj (w.heap.size + 1) (.loop (rec (if jump.isNone then .ready else .done) jump))) ∧
          W3.heap[w.heap.size + 1]? = some busy ∧
          (W3.putObj (w.heap.size + 1) (.loop (rec (if jump.isNone then .ready else .done) jump))).heap[w.heap.size + 1]? = some (.loop (rec (if jump.isNone then .ready else .done) jump)) ∧
          (W3.putObj (w.heap.size + 1) (.loop (rec (if jump.isNone then .ready else .done) jump))).heap[w.heap.size]? = some (.deferred (some [])) := fun jump W3 hk3 => by
        have hl3 := hk3.same _ _ hl2 hbc
        have hl4 := hl3
        rw [hbusy] at hl3
        have hrun := run_endRound (P := P) jump hl3
        rw [hrec] at hrun ⊢
        exact ⟨hrun, hl4, World.putObj_heap_same (Array.getElem?_eq_some_iff.1 hl4).1, (World.putObj_heap_other (by omega)).trans (hk3.same _ _ hk2 rfl)⟩
      rintro e a3 W3 hp
      cases e with
      | normal =>
        obtain ⟨hk3, hkp3, hi3⟩ := hp
        obtain ⟨hr, hl3, hl4, hk4⟩ := fin none W3 hk3
        exact ⟨_, _, hr, .inl ⟨rfl, ⟨kb hI _ (by omega) hi3 hl3 hbc, hl4, hk4⟩, (hw2.trans hkp3).trans (KeptC.putObj _ (by omega) (by omega) bk hl3)⟩⟩
      | ret =>
        obtain ⟨hk3, hi3⟩ := hp
        obtain ⟨hr, hl3, hl4, hk4⟩ := fin (some .ret) W3 hk3
        exact ⟨_, _, hr, .inr ⟨rfl, .ret, kb (hIx _) _ (by omega) hi3 hl3 hbc, hl4, hk4⟩⟩
      | exit id =>
        obtain ⟨hk3, hi3⟩ := hp
        obtain ⟨hr, hl3, hl4, hk4⟩ := fin (some (.exit id)) W3 hk3
        exact ⟨_, _, hr, .inr ⟨rfl, .exit id, kb (hIx _) _ (by omega) hi3 hl3 hbc, hl4, hk4⟩⟩
      | goto t =>
        obtain ⟨hk3, hi3⟩ := hp
        obtain ⟨hr, hl3, hl4, hk4⟩ := fin (some (.goto t)) W3 hk3
        exact ⟨_, _, hr, .inr ⟨rfl, .goto t, kb (hIx _) _ (by omega) hi3 hl3 hbc, hl4, hk4⟩⟩
      | panic ch => exact hp.elim
      | outgrown => exact hp.elim
    · rintro e W2 ⟨⟨v, rfl⟩, (⟨xs, hS, hi, hl, hk⟩ | ⟨pre, hSp, c, hi, hl, hk⟩)⟩
      · have hrun := run_endLoop (P := P) hl (by rw [hrec]; simp)
        rw [hrec] at hrun
        exact ⟨none, _, hrun, hdone _ xs _ (Nat.le_refl _) hS (kb hI _ (by omega) hi hl rfl) ((World.putObj_heap_other (by omega)).trans hk)⟩
      · have hrun := run_endLoop (P := P) hl (by rw [hrec]; simp)
        rw [hrec] at hrun
        exact ⟨some c, _, hrun, hstop _ c pre _ (Nat.le_refl _) hSp (kb (hIx c) _ (by omega) hi hl rfl) ((World.putObj_heap_other (by omega)).trans hk)⟩
end
end Go.Proofs.Ytoljnbbhoeloeaa

/- AN APPEND OF ONE CELL INSIDE A FENCE: the row is where it was, or in a new block. -/
namespace Go.Proofs.Ytoljnbbhoeloeaa
open Go.RowKit Go.Shelf
theorem run_append_fresh {P : Program} (w : World) (base : Nat) (t ty e : TypeId) (i : TypeInfo) (z : Value) (bytes : Nat) (ht : P.underlying t = some (.slice e)) (hi : P.info? e = some i) (hz : i.zero = some z)
    (hsize : i.size = 1) (hby : i.bytes = bytes) (hzs : z.cells.size = 1)
    (v : Value) (n : Nat) (xs : List Value) (hown : w.ownsRow base e 1 v n xs)
    (a : Addr) (c : Nat) (y : Value) (hy : w.cell? a = some y) (hy1 : y.oneCell' = true)
    (h63 : n + 1 ≤ maxLen) (hbytes : (n + 1) * bytes ≤ 140737488355328) (hbase : base ≤ w.heap.size) :
    ∃ v' w', (Builtin.append_ #[t, t] ty #[v, .slice (some a) 1 c]).run P w = .ok v' w' ∧ w'.ownsRow base e 1 v' (n + 1) (xs ++ [y]) ∧ w.grownBy w' v.ownBlock ∧ ∀ k, v'.ownBlock = some k → v.ownBlock = some k ∨ w.heap.size ≤ k := by
  have hnews : ∀ j u, [y][j]? = some u → w.cell? (a.add j) = some u := fun j u hu => by
    match j, hu with
    | 0, hu => simp at hu; subst hu; simpa [Addr.add] using hy
  obtain ⟨v', w', hr0, h1, h2, _⟩ := run_append_own (P := P) w base t ty e i z 1 bytes ht hi hz hsize hby hzs (by decide) v n xs hown a 1 c [y] rfl hnews (by intro u hu; simp at hu; subst hu; exact hy1) h63 hbytes hbase
  refine ⟨v', w', hr0, h1, h2, ?_⟩
  have hn63 : n + 1 ≤ 9223372036854775807 := by simp only [maxLen] at h63; omega
  subst hby
  rcases hown.2 with ⟨rfl, rfl⟩ | ⟨g, cap, cur, rfl, hbg, hg, hnc, hcm, hcs, htake⟩
  · have hr := run_append_nil (P := P) w t ty e i z ht hi hz a 1 c [y] (by rw [hsize]; rfl) hnews (by omega) (by omega) (by omega)
    rw [hr0] at hr
    injection hr with hv _
    subst hv
    intro k hk
    have hk2 : w.heap.size = k := by injection hk
    exact .inr (by omega)
  · by_cases hroom : n + 1 ≤ cap
    · have hr := run_append_room (P := P) w t ty e i ht hi g n cap cur hg a 1 c [y] (by rw [hsize]; rfl) hnews (by intro u hu; simp at hu; subst hu; exact hy1) hroom (by rw [hsize, hcs]; simp; omega)
      rw [hr0] at hr
      injection hr with hv _
      subst hv
      exact fun k hk => .inl hk
    · have holds : ∀ j u, xs[j]? = some u → w.cell? ((⟨g, 0, none⟩ : Addr).add j) = some u := hown.cells (g := g) rfl
      have hr := run_append_grow (P := P) w t ty e i z ht hi hz ⟨g, 0, none⟩ n cap xs (by rw [hsize]; exact hown.1) holds a 1 c [y] (by rw [hsize]; rfl) hnews (by omega) (by omega) (growslice_fits (by omega) hbytes)
      rw [hr0] at hr
      injection hr with hv _
      subst hv
      intro k hk
      have hk2 : w.heap.size = k := by injection hk
      exact .inr (by omega)
theorem app_in {F : Fence} {m : Nat} {P : Program} {w : World} {ops : Array Oper} {rest : List Oper} {o : Oper} {a : Act} {Q : Exit → Act → World → Prop}
    (hgd : o.guard = none) (s x : Operand) {t e : TypeId} {z : Value} {bytes : Nat} (ht : P.underlying t = some (.slice e)) (hinfo : (P.info? e).map (fun i => (i.zero, i.size, i.bytes)) = some (some z, 1, bytes)) (hz1 : z.cells.size = 1) (hb8 : bytes ≤ 64)
    (ho : o.op = .call { callee := .builtin .append, args := #[s, x], argTypes := #[t, t] })
    (base : Nat) (v : Value) (n : Nat) (xs : List Value) (hs : a.eval s = v) (hown : w.ownsRow base e 1 v n xs)
    (ad : Addr) (y : Value) (hx : a.eval x = .slice (some ad) 1 1) (hy : w.cell? ad = some y) (hy1 : y.oneCell' = true) (hn : n ≤ 1000000000000) (hbase : base ≤ w.heap.size)
    (h : ∀ v' w', w'.ownsRow base e 1 v' (n + 1) (xs ++ [y]) → w.grownBy w' v.ownBlock → (∀ k, v'.ownBlock = some k → v.ownBlock = some k ∨ w.heap.size ≤ k) → wpListIn F m P ops Q rest (a.put o.dst v') w') : wpListIn F m P ops Q (o :: rest) a w := by
  obtain ⟨i0, hi, hz0, hzz, hz2⟩ := info_parts hinfo
  have hb : (n + 1) * bytes ≤ 140737488355328 := by
    have := Nat.mul_le_mul_left (n + 1) hb8
    omega
  obtain ⟨v', w', hrun, r1, r2, r3⟩ := run_append_fresh (P := P) w base t o.type e i0 z bytes ht hi hz0 hzz hz2 hz1 v n xs hown ad 1 y hy hy1 (by unfold maxLen; omega) hb hbase
  refine wpListIn_plain hgd fun K hK' => ?_
  unfold Oper.wpIn
  refine ⟨?_, ?_⟩
  · simp [Oper.about, ho, resolve, Target.leads, Sem.run_pure]
  · rw [Oper.semAt_plain F _ _ (by rw [ho]; intro c hc'; cases hc')]
    simp [execOp, ho, resolve, invoke, builtin, hs, hx, hrun, Result.andThen]
    exact hK' _ _ (h v' w' r1 r2 r3)
end Go.Proofs.Ytoljnbbhoeloeaa

/- WALK: slices.Contains, slices.Index and slices.Clone at rows of numbers. -/
namespace Go.Proofs.Ytoljnbbhoeloeaa
open Go.RowKit
/-- The first place of x, or -1. -/
def idx (l : List Int) (x : Int) : Int := match l.findIdx? (fun y => decide (y = x)) with
  | some i => i
  | none => -1
def NotTo (l : List Int) (x : Int) (k : Nat) : Prop := ∀ j, j < k → j < l.length → nth l j ≠ x
theorem notTo_s {l : List Int} {x : Int} {k : Nat} (h : NotTo l x k) (h2 : nth l k ≠ x) : NotTo l x (k + 1) := fun j h3 h4 => by
  by_cases e : j = k
  · rw [e]; exact h2
  · exact h j (by omega) h4
set_option maxRecDepth 100000 in
set_option maxHeartbeats 1000000 in
theorem index_any (l : List Int) (x : Int) (A : Option Addr) (c : Nat) (hl : l.length ≤ 1000000000000) (w : World) (B : Nat) (r : Rd w B A l) :
    Calls Try.prog 89 #[.slice A l.length c, .int .i64 x] w fun e w' => (∃ i : Int, e = .returned (.int .i64 i) ∧ (0 ≤ i ↔ x ∈ l)) ∧ ∃ q, w' = w.drewN q := by
  obtain ⟨n, hn⟩ : ∃ n, n = l.length := ⟨_, rfl⟩
  rw [← hn] at hl ⊢
  have R := hid r; have HN := hid hn
  clear r hn
  go_enter Try.func89, Try.ntmps89
  go_wp2_with fail
  go_loopw [8] (fun i wr => ∃ k : Nat, k ≤ n ∧ i = .int .i64 k ∧ Hid (NotTo l x k) ∧ ∃ q, wr = w.drewN q) (fun i _ => n - (intOf i).toNat)
  case atStart => exact ⟨0, by omega, rfl, (fun j h => by omega), 0, rfl⟩
  case round =>
    obtain ⟨k, hk, rfl, hG, q, rfl⟩ := hrel
    by_cases hkn : k < n
    · obtain ⟨b, o, rfl, _, hc⟩ := R.out.at (by rw [← HN.out]; omega)
      have p1 := hc k (by rw [← HN.out]; exact hkn)
      have hnx := notTo_s hG.out
      have hmem : nth l k ∈ l := by
        rw [nth, List.getD, List.getElem?_eq_getElem (by rw [← HN.out]; exact hkn)]
        simp
      generalize nth l k = y at p1 hnx hmem
      clear hc
      have HNX := hid hnx; have HMEM := hid hmem
      clear hnx hmem
      by_cases hxy : x = y
      · have hxe : (x == y) = true := by simp [hxy]
        have HIN : Hid (x ∈ l) := by rw [hxy]; exact HMEM.out
        clear hxy
        go_wp2_with fail
        all_goals
          go_ret
          exact ⟨⟨_, rfl, ⟨fun _ => HIN.out, fun _ => by omega⟩⟩, q, rfl⟩
      · have hxe : (x == y) = false := by simp [hxy]
        have HX := hid (HNX.out fun e => hxy e.symm)
        clear hxy
        go_wp2_with fail
        go_roundw
        case rel => exact ⟨k + 1, by omega, by go_num, HX.out, q, rfl⟩
        case measure => simp [intOf]; omega
    · obtain rfl : n = k := by omega
      have HNO : Hid (¬ x ∈ l) := fun hm => by
        obtain ⟨j, hj, e⟩ := List.getElem_of_mem hm
        refine hG.out j (by rw [HN.out]; exact hj) hj ?_
        rw [nth, List.getD, List.getElem?_eq_getElem hj]
        exact e
      go_wp2_with fail
      go_ret
      exact ⟨⟨_, rfl, ⟨fun h => absurd h (by decide), fun h => absurd h HNO.out⟩⟩, q, rfl⟩
set_option maxRecDepth 100000 in
set_option maxHeartbeats 1000000 in
theorem contains_any (l : List Int) (x : Int) (A : Option Addr) (c : Nat) (hl : l.length ≤ 1000000000000) (w : World) (B : Nat) (r : Rd w B A l) :
    Calls Try.prog 73 #[.slice A l.length c, .int .i64 x] w fun e w' => e = .returned (.bool (l.contains x)) ∧ ∃ q, w' = w.drewN q := by
  have HI := hid (index_any l x A c hl w B r)
  clear r
  go_enter Try.func73, Try.ntmps73
  go_wp2_with (first | (go_at_call 89; refine HI.out.mono ?_; rintro e w' ⟨⟨i, rfl, hi⟩, q, rfl⟩))
  go_ret
  refine ⟨?_, q, rfl⟩
  show Ending.returned (Value.bool _) = _
  congr 2
  rw [Bool.eq_iff_iff, List.contains_iff_mem]
  simp [hi]
set_option maxRecDepth 100000 in
set_option maxHeartbeats 1000000 in
theorem clone_any (l : List Nat) (v : Value) (B : Nat) (hl : l.length ≤ 1000000000) (w : World) (ho : w.ownsRow B 3 1 v l.length (ints (nz l))) :
    Calls Try.prog 87 #[v] w fun e w' => ∃ v', e = .returned v' ∧ w'.ownsRow w.heap.size 3 1 v' l.length (ints (nz l)) ∧ Below w.heap.size w w' := by
  rcases ho.2 with ⟨rfl, h0⟩ | ⟨g, cap, cur, rfl, _⟩
  · obtain rfl : l = [] := List.eq_nil_of_length_eq_zero h0
    clear ho h0
    have heq := fun w : World => run_eql_slice_nil (P := Try.prog) w 22 3 none 0 0 Try.underlying22
    go_enter Try.func87, Try.ntmps87
    go_wp2_with fail
    go_ret
    exact ⟨_, rfl, World.ownsRow_nil _ _ _ _, Below.refl _ _⟩
  · have HP := hid (part_own (own_keep ho ((Below.refl _ _).alloc (Nat.le_refl _) (.cells #[] 3))))
    have hown : (w.alloc (.cells #[] 3)).ownsRow w.heap.size 3 1 (.slice (some ⟨w.heap.size, 0, none⟩) 0 0) 0 (ints []) := own_lit w _ #[] (Nat.le_refl _) rfl (by decide)
    clear ho
    have heq := fun w : World => run_eql_slice_nil (P := Try.prog) w 22 3 (some ⟨g, 0, none⟩) l.length cap Try.underlying22
    go_enter Try.func87, Try.ntmps87
    go_wp2_with (first | (at_builtin; refine app_line rfl (.tmp 5) (.tmp 6) Try.underlying22 Try.infoInt rfl (by decide) rfl w.heap.size _ _ [] rfl hown (some ⟨g, 0, none⟩) l.length cap (nz l) rfl HP.out (by omega) (by simp) ?_; intro v4 w4 hown4 hgrow4; have HB4 := hid (below_app ((Below.refl w.heap.size w).alloc (Nat.le_refl _) _) hown hgrow4 (Nat.le_refl _) (by simp))))
    go_ret
    rw [Nat.zero_add, List.nil_append] at hown4
    exact ⟨_, rfl, hown4, HB4.out⟩
end Go.Proofs.Ytoljnbbhoeloeaa
