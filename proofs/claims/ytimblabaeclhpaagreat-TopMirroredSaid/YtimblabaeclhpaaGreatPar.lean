/- PLAIN LAW: what the parser of the line code computes: items, or the place where the string goes on wrongly. -/
import Derived.Test.YtimblabaeclhpaaGreatStrs
import Derived.Test.YtimblabaeclhpaaGreatNode
namespace Go.Proofs.YtimblabaeclhpaaGreat
/-- An item: its node (without a depth and a sign), its code, where it begins, its kids. -/
inductive Itm where
  | mk (nd : Nd) (code : ByteArray) (pos : Nat) (kids : List Itm)
def Itm.nd : Itm → Nd | .mk n _ _ _ => n
def Itm.code : Itm → ByteArray | .mk _ c _ _ => c
def Itm.pos : Itm → Nat | .mk _ _ p _ => p
def Itm.kids : Itm → List Itm | .mk _ _ _ k => k
/-- What a reading gives: the place where it goes on wrongly, or what was read and the place behind it. -/
inductive PR (α : Type) where
  | bad (p : Nat)
  | ok (x : α) (p : Nat)
def kN (k : Int) : Nd := ⟨k, 0, 0, 0, false, 0, 0, 0⟩
def kI (k : Int) (kids : List Itm) : Itm := .mk (kN k) ByteArray.empty 0 kids
def oneI (k : Int) (kids : List Itm) : Itm := match kids with
  | [x] => x
  | l => kI k l
def digitP (s : ByteArray) (lo hi : Int) (p : Nat) : PR Int := if lo ≤ byt s p ∧ byt s p ≤ hi then .ok (byt s p - 48) (p + 1) else .bad p
def codeEnd (s : ByteArray) : Nat → Nat → Nat
  | 0, q => q
  | k + 1, q => if alB (byt s q) = true then codeEnd s k (q + 1) else q
def isQ (s : ByteArray) (c : Int) (p : Nat) : Nat := if byt s p = c then p + 1 else p
def stateB (c : Int) : Int := if c = 35 then 1 else if c = 61 then 2 else if c = 33 then 3 else 0
def glyphI (s : ByteArray) (p q : Nat) (m : Bool) (t st : Int) : Itm := .mk ⟨1, 0, 0, t, m, st, 0, 0⟩ (s.extract p q) p []
def turnP (s : ByteArray) (q : Nat) : PR Int := if byt s q = 47 then digitP s 49 51 (q + 1) else .ok 0 q
def glyphP (s : ByteArray) (p : Nat) : PR Itm :=
  if upB (byt s p) = true then
    let q := codeEnd s 7 (p + 1)
    match turnP s (isQ s 92 q) with
    | .bad e => .bad e
    | .ok t q2 => .ok (glyphI s p q (decide (byt s q = 92)) t (stateB (byt s q2))) (if stateB (byt s q2) = 0 then q2 else q2 + 1)
  else .bad p
def gapI (a b : Int) : Itm := .mk ⟨6, 0, 0, 0, false, 0, a, b⟩ ByteArray.empty 0 []
def leafP (s : ByteArray) (p : Nat) : PR Itm :=
  if byt s p = 123 then
    match digitP s 48 57 (p + 1) with
    | .bad e => .bad e
    | .ok a q => if byt s q = 45 then
        match digitP s 48 57 (q + 1) with
        | .bad e => .bad e
        | .ok b q2 => if byt s q2 = 125 then .ok (gapI a b) (q2 + 1) else .bad q2
      else .bad q
  else glyphP s p
/-- What a reading of an Above within parentheses or outside of them gives at a place. -/
abbrev AbF := Nat → Bool → PR Itm
def overP (s : ByteArray) (ab : AbF) (p : Nat) : PR (Itm × Bool) :=
  if byt s p = 40 then
    match ab (p + 1) true with
    | .bad e => .bad e
    | .ok x q => if byt s q = 41 then .ok (x, true) (q + 1) else .bad q
  else
    match leafP s p with
    | .bad e => .bad e
    | .ok x q => if byt s q = 38 then
        match leafP s (q + 1) with
        | .bad e => .bad e
        | .ok y q2 => .ok (kI 4 [x, y], false) q2
      else .ok (x, false) q
/-- Further items, each behind a byte. -/
def loopP (s : ByteArray) (c : Int) (f : Nat → PR Itm) : Nat → List Itm → Nat → PR (List Itm)
  | 0, _, p => .bad p
  | n + 1, ks, p => if byt s p = c then
      match f (p + 1) with
      | .bad e => .bad e
      | .ok x q => loopP s c f n (ks ++ [x]) q
    else .ok ks p
def fstP (r : PR (Itm × Bool)) : PR Itm := match r with
  | .bad e => .bad e
  | .ok x q => .ok x.1 q
def allP (s : ByteArray) (c : Int) (f : Nat → PR Itm) (x : Itm) (q : Nat) : PR (List Itm) := loopP s c f (s.size + 1 - q) [x] q
def oneP (k : Int) (r : PR (List Itm)) : PR Itm := match r with
  | .bad e => .bad e
  | .ok ks q => .ok (oneI k ks) q
def besideP (s : ByteArray) (ab : AbF) (p : Nat) : PR Itm :=
  match overP s ab p with
  | .bad e => .bad e
  | .ok x q => if x.2 = true ∧ byt s q ≠ 42 then .bad q else oneP 2 (allP s 42 (fun p => fstP (overP s ab p)) x.1 q)
def aboveP (s : ByteArray) (ab : AbF) : AbF := fun p within =>
  match besideP s ab p with
  | .bad e => .bad e
  | .ok x q => if within = true ∧ byt s q ≠ 58 then .bad q else oneP 3 (allP s 58 (besideP s ab) x q)
def aboveN (s : ByteArray) : Nat → AbF
  | 0 => aboveP s fun p _ => .bad p
  | n + 1 => aboveP s (aboveN s n)
def aboveS (s : ByteArray) : AbF := fun p => aboveN s (s.size - p) p
/-- A node with kids that ends with a byte. -/
def shutP (s : ByteArray) (k c : Int) (r : PR (List Itm)) : PR Itm := match r with
  | .bad e => .bad e
  | .ok ks q => if byt s q = c then .ok (kI k ks) (q + 1) else .bad q
def partP (s : ByteArray) (p : Nat) : PR Itm :=
  if byt s p = 91 then
    match aboveS s (p + 1) false with
    | .bad e => .bad e
    | .ok x q => shutP s 7 93 (allP s 59 (fun p => aboveS s p false) x q)
  else aboveS s p false
def groupP (s : ByteArray) (p : Nat) : PR Itm :=
  if byt s p = 60 then
    match partP s (p + 1) with
    | .bad e => .bad e
    | .ok x q => shutP s 5 62 (allP s 45 (partP s) x q)
  else partP s p
def readP (s : ByteArray) (p : Nat) : PR (List Itm) :=
  match groupP s p with
  | .bad e => .bad e
  | .ok x q => allP s 45 (groupP s) x q
def parseP (s : ByteArray) : PR (List Itm) :=
  if s.toList.isEmpty = true then .ok [] 0 else
    match readP s 0 with
    | .bad e => .bad e
    | .ok l q => if q < s.size then .bad q else .ok l q
theorem byt_out {s : ByteArray} {p : Nat} (h : s.size ≤ p) : byt s p = 0 := by unfold byt; rw [dif_neg (by omega)]
theorem byt_in {s : ByteArray} {p : Nat} {c : Int} (h : byt s p = c) (hc : 0 < c) : p < s.size := by
  by_cases hp : p < s.size
  · exact hp
  · rw [byt_out (by omega)] at h; omega
theorem byt_b (s : ByteArray) (p : Nat) : 0 ≤ byt s p ∧ byt s p ≤ 255 := by
  unfold byt
  split
  · rename_i h
    have := (s[p]'h).toNat_lt
    omega
  · omega
/-- A reading that goes forward, within the string. -/
def PR.fwd {α : Type} (s : ByteArray) (p : Nat) : PR α → Prop
  | .bad _ => True
  | .ok _ q => p ≤ q ∧ q ≤ s.size
theorem digit_fwd {s : ByteArray} {lo hi : Int} {p : Nat} (hl : 0 < lo) : (digitP s lo hi p).fwd s (p + 1) := by
  unfold digitP
  split
  · rename_i h
    have : p < s.size := byt_in rfl (by omega)
    exact ⟨Nat.le_refl _, by omega⟩
  · trivial
theorem codeEnd_le (s : ByteArray) : ∀ k q, q ≤ s.size → q ≤ codeEnd s k q ∧ codeEnd s k q ≤ s.size
  | 0, q, h => ⟨Nat.le_refl _, h⟩
  | k + 1, q, h => by
    unfold codeEnd
    split
    · rename_i ha
      have hq : q < s.size := by
        by_cases hp : q < s.size
        · exact hp
        · rw [byt_out (by omega)] at ha; exact absurd ha (by decide)
      have := codeEnd_le s k (q + 1) hq
      omega
    · exact ⟨Nat.le_refl _, h⟩
theorem codeEnd_8 (s : ByteArray) : ∀ k q, codeEnd s k q ≤ q + k
  | 0, q => Nat.le_refl _
  | k + 1, q => by
    unfold codeEnd
    split
    · have := codeEnd_8 s k (q + 1)
      omega
    · omega
theorem isQ_le {s : ByteArray} {c : Int} {q : Nat} (hc : 0 < c) (h : q ≤ s.size) : q ≤ isQ s c q ∧ isQ s c q ≤ s.size := by
  unfold isQ
  split
  · rename_i e
    have := byt_in e hc
    omega
  · omega
theorem turn_fwd {s : ByteArray} {q : Nat} (h : q ≤ s.size) : (turnP s q).fwd s q := by
  unfold turnP
  split
  · have := digit_fwd (s := s) (lo := 49) (hi := 51) (p := q + 1) (by decide)
    cases e : digitP s 49 51 (q + 1) with
    | bad => trivial
    | ok x r => rw [e] at this; exact ⟨by have := this.1; omega, this.2⟩
  · exact ⟨Nat.le_refl _, h⟩
theorem state_in {s : ByteArray} {q : Nat} (h : stateB (byt s q) ≠ 0) : q < s.size := by
  by_cases hp : q < s.size
  · exact hp
  · rw [byt_out (by omega)] at h; exact absurd rfl h
theorem glyph_fwd {s : ByteArray} {p : Nat} : (glyphP s p).fwd s (p + 1) := by
  unfold glyphP
  split
  · rename_i hu
    have hp : p < s.size := by
      by_cases hp : p < s.size
      · exact hp
      · rw [byt_out (by omega)] at hu; exact absurd hu (by decide)
    have h1 := codeEnd_le s 7 (p + 1) hp
    have h2 := isQ_le (s := s) (c := 92) (by decide) h1.2
    have h3 := turn_fwd h2.2
    simp only []
    cases e : turnP s (isQ s 92 (codeEnd s 7 (p + 1))) with
    | bad => trivial
    | ok t q2 =>
      rw [e] at h3
      have := h3.1; have := h3.2
      simp only [PR.fwd]
      split
      · omega
      · rename_i hs
        have := state_in hs
        omega
  · trivial
theorem leaf_fwd {s : ByteArray} {p : Nat} : (leafP s p).fwd s (p + 1) := by
  unfold leafP
  split
  · have h1 := digit_fwd (s := s) (lo := 48) (hi := 57) (p := p + 1) (by decide)
    cases e : digitP s 48 57 (p + 1) with
    | bad => trivial
    | ok a q =>
      rw [e] at h1
      have h1a := h1.1
      simp only []
      split
      · have h2 := digit_fwd (s := s) (lo := 48) (hi := 57) (p := q + 1) (by decide)
        cases e2 : digitP s 48 57 (q + 1) with
        | bad => trivial
        | ok b q2 =>
          rw [e2] at h2
          have h2a := h2.1
          simp only []
          split
          · rename_i h3
            have := byt_in h3 (by decide)
            exact ⟨by omega, by omega⟩
          · trivial
      · trivial
  · exact glyph_fwd
/-- A reader of items that goes forward. -/
def FwF (s : ByteArray) (f : Nat → PR Itm) : Prop := ∀ p, (f p).fwd s p
theorem over_fwd {s : ByteArray} {ab : AbF} (h : ∀ w, FwF s fun p => ab p w) (p : Nat) : (overP s ab p).fwd s p := by
  unfold overP
  split
  · have h1 := h true (p + 1)
    cases e : ab (p + 1) true with
    | bad => trivial
    | ok x q =>
      simp only [e] at h1
      have h1a := h1.1
      simp only []
      split
      · rename_i h3
        have := byt_in h3 (by decide)
        exact ⟨by omega, by omega⟩
      · trivial
  · have h1 := leaf_fwd (s := s) (p := p)
    cases e : leafP s p with
    | bad => trivial
    | ok x q =>
      rw [e] at h1
      have h1a := h1.1
      simp only []
      split
      · have h2 := leaf_fwd (s := s) (p := q + 1)
        cases e2 : leafP s (q + 1) with
        | bad => trivial
        | ok y q2 =>
          rw [e2] at h2
          have h2a := h2.1
          exact ⟨by omega, h2.2⟩
      · exact ⟨by omega, h1.2⟩
theorem loop_fwd {s : ByteArray} {c : Int} {f : Nat → PR Itm} (h : FwF s f) : ∀ n ks p, p ≤ s.size → (loopP s c f n ks p).fwd s p
  | 0, _, _, _ => trivial
  | n + 1, ks, p, hp => by
    unfold loopP
    split
    · have h1 := h (p + 1)
      cases e : f (p + 1) with
      | bad => trivial
      | ok x q =>
        rw [e] at h1
        have h1a := h1.1
        have h2 := loop_fwd (c := c) h n (ks ++ [x]) q h1.2
        simp only []
        cases e2 : loopP s c f n (ks ++ [x]) q with
        | bad => trivial
        | ok y r =>
          rw [e2] at h2
          have h2a := h2.1
          exact ⟨by omega, h2.2⟩
    · exact ⟨Nat.le_refl _, hp⟩
theorem fst_fwd {s : ByteArray} {r : PR (Itm × Bool)} {p : Nat} (h : r.fwd s p) : (fstP r).fwd s p := by
  cases r with
  | bad => trivial
  | ok x q => exact h
theorem one_fwd {s : ByteArray} {r : PR (List Itm)} {k : Int} {p : Nat} (h : r.fwd s p) : (oneP k r).fwd s p := by
  cases r with
  | bad => trivial
  | ok x q => exact h
theorem PR.fwd.le {α : Type} {s : ByteArray} {p q : Nat} {r : PR α} (h : r.fwd s q) (hp : p ≤ q) : r.fwd s p := by
  cases r with
  | bad => trivial
  | ok x q => exact ⟨Nat.le_trans hp h.1, h.2⟩
theorem beside_fwd {s : ByteArray} {ab : AbF} (h : ∀ w, FwF s fun p => ab p w) : FwF s (besideP s ab) := by
  intro p
  unfold besideP
  have h1 := over_fwd h p
  cases e : overP s ab p with
  | bad => trivial
  | ok x q =>
    rw [e] at h1
    simp only []
    split
    · trivial
    · exact (one_fwd (loop_fwd (fun p => fst_fwd (over_fwd h p)) _ _ _ h1.2)).le h1.1
theorem above_fwd {s : ByteArray} {ab : AbF} (h : ∀ w, FwF s fun p => ab p w) (w : Bool) : FwF s fun p => aboveP s ab p w := by
  intro p
  simp only [aboveP]
  have h1 := beside_fwd h p
  cases e : besideP s ab p with
  | bad => trivial
  | ok x q =>
    rw [e] at h1
    simp only []
    split
    · trivial
    · exact (one_fwd (loop_fwd (beside_fwd h) _ _ _ h1.2)).le h1.1
theorem aboveN_fwd (s : ByteArray) : ∀ n w, FwF s fun p => aboveN s n p w
  | 0, w => above_fwd (ab := fun p _ => .bad p) (fun _ _ => trivial) w
  | n + 1, w => above_fwd (aboveN_fwd s n) w
theorem aboveS_fwd (s : ByteArray) (w : Bool) : FwF s fun p => aboveS s p w := fun p => aboveN_fwd s (s.size - p) w p
theorem shut_fwd {s : ByteArray} {k c : Int} {p : Nat} {r : PR (List Itm)} (hc : 0 < c) (h : r.fwd s p) : (shutP s k c r).fwd s p := by
  cases r with
  | bad => trivial
  | ok x q =>
    simp only [shutP]
    split
    · rename_i h3
      have := byt_in h3 hc
      exact ⟨by have := h.1; omega, by omega⟩
    · trivial
theorem part_fwd (s : ByteArray) : FwF s (partP s) := by
  intro p
  unfold partP
  split
  · have h1 := aboveS_fwd s false (p + 1)
    cases e : aboveS s (p + 1) false with
    | bad => trivial
    | ok x q =>
      simp only [e] at h1
      exact (shut_fwd (by decide) (loop_fwd (aboveS_fwd s false) _ _ _ h1.2)).le (by have := h1.1; omega)
  · exact aboveS_fwd s false p
theorem group_fwd (s : ByteArray) : FwF s (groupP s) := by
  intro p
  unfold groupP
  split
  · have h1 := part_fwd s (p + 1)
    cases e : partP s (p + 1) with
    | bad => trivial
    | ok x q =>
      rw [e] at h1
      exact (shut_fwd (by decide) (loop_fwd (part_fwd s) _ _ _ h1.2)).le (by have := h1.1; omega)
  · exact part_fwd s p
/-- One more round of the loop. -/
theorem loop_step {s : ByteArray} {c : Int} {f : Nat → PR Itm} {n : Nat} {ks : List Itm} {p q : Nat} {x : Itm} (h1 : byt s p = c) (h2 : f (p + 1) = .ok x q) (h0 : 0 < n) : loopP s c f n ks p = loopP s c f (n - 1) (ks ++ [x]) q := by
  obtain ⟨m, rfl⟩ : ∃ m, n = m + 1 := ⟨n - 1, by omega⟩
  rw [loopP, if_pos h1, h2]
  rfl
theorem loop_bad {s : ByteArray} {c : Int} {f : Nat → PR Itm} {n : Nat} {ks : List Itm} {p e : Nat} (h1 : byt s p = c) (h2 : f (p + 1) = .bad e) (h0 : 0 < n) : loopP s c f n ks p = .bad e := by
  obtain ⟨m, rfl⟩ : ∃ m, n = m + 1 := ⟨n - 1, by omega⟩
  rw [loopP, if_pos h1, h2]
theorem loop_end {s : ByteArray} {c : Int} {f : Nat → PR Itm} {n : Nat} {ks : List Itm} {p : Nat} (h1 : byt s p ≠ c) (h0 : 0 < n) : loopP s c f n ks p = .ok ks p := by
  obtain ⟨m, rfl⟩ : ∃ m, n = m + 1 := ⟨n - 1, by omega⟩
  rw [loopP, if_neg h1]
/-- With more fuel than the loop wants it gives the same. -/
theorem loop_fuel {s : ByteArray} {c : Int} {f : Nat → PR Itm} (hf : FwF s f) (hc : 0 < c) : ∀ (n m : Nat) (ks : List Itm) (p : Nat), s.size < n + p → s.size < m + p → p ≤ s.size → loopP s c f n ks p = loopP s c f m ks p
  | 0, _, _, _, h, _, hp => by omega
  | n + 1, 0, _, _, _, h, hp => by omega
  | n + 1, m + 1, ks, p, h1, h2, hp => by
    rw [loopP, loopP]
    by_cases hb : byt s p = c
    · rw [if_pos hb, if_pos hb]
      have h3 := hf (p + 1)
      have hps := byt_in hb hc
      cases e : f (p + 1) with
      | bad => rfl
      | ok x q =>
        rw [e] at h3
        have h3a := h3.1
        exact loop_fuel hf hc n m (ks ++ [x]) q (by omega) (by omega) h3.2
    · rw [if_neg hb, if_neg hb]
end Go.Proofs.YtimblabaeclhpaaGreat

/- PLAIN LAW: the nodes of items; what was read has no more nodes than bytes. -/
namespace Go.Proofs.YtimblabaeclhpaaGreat
mutual
def Itm.nodes (d : Int) : Itm → List Nd
  | .mk nd _ _ kids => { nd with depth := d } :: nodesL (d + 1) kids
def nodesL (d : Int) : List Itm → List Nd
  | [] => []
  | x :: ks => x.nodes d ++ nodesL d ks
end
mutual
def Itm.sz : Itm → Nat
  | .mk _ _ _ kids => 1 + szL kids
def szL : List Itm → Nat
  | [] => 0
  | x :: ks => x.sz + szL ks
end
mutual
theorem nodes_len : ∀ (d : Int) (x : Itm), (x.nodes d).length = x.sz
  | d, .mk nd c p kids => by rw [Itm.nodes, Itm.sz, List.length_cons, nodesL_len (d + 1) kids]; omega
theorem nodesL_len : ∀ (d : Int) (ks : List Itm), (nodesL d ks).length = szL ks
  | d, [] => by rw [nodesL, szL]; rfl
  | d, x :: ks => by rw [nodesL, szL, List.length_append, nodes_len d x, nodesL_len d ks]
end
theorem szL_app : ∀ (a b : List Itm), szL (a ++ b) = szL a + szL b
  | [], b => by simp [szL]
  | x :: a, b => by rw [List.cons_append, szL, szL, szL_app a b]; omega
theorem szL_one (x : Itm) : szL [x] = x.sz := by simp [szL]
theorem sz_kI (k : Int) (ks : List Itm) : (kI k ks).sz = 1 + szL ks := by unfold kI; rw [Itm.sz]
theorem sz_one (k : Int) (ks : List Itm) : (oneI k ks).sz ≤ szL ks + (if ks.length = 1 then 0 else 1) := by
  match ks with
  | [] => unfold oneI; rw [sz_kI]; simp [szL]
  | [x] => unfold oneI; simp [szL_one]
  | x :: y :: l => unfold oneI; rw [sz_kI]; simp; omega
/-- What was read has no more nodes than bytes. -/
def PR.fit (p : Nat) : PR Itm → Prop
  | .bad _ => True
  | .ok x q => p + x.sz ≤ q
def PR.fitO (p : Nat) : PR (Itm × Bool) → Prop
  | .bad _ => True
  | .ok x q => p + x.1.sz ≤ q
def FtF (f : Nat → PR Itm) : Prop := ∀ p, (f p).fit p
theorem glyph_fit (s : ByteArray) : FtF (glyphP s) := fun p => by
  have h := glyph_fwd (s := s) (p := p)
  cases e : glyphP s p with
  | bad => trivial
  | ok x q =>
    rw [e] at h
    have h1 := h.1
    have hx : x.sz = 1 := by
      unfold glyphP at e
      split at e
      · simp only [] at e
        split at e
        · cases e
        · injection e with e _
          subst e
          unfold glyphI
          rw [Itm.sz]
          simp [szL]
      · cases e
    show p + x.sz ≤ q
    omega
theorem leaf_fit (s : ByteArray) : FtF (leafP s) := fun p => by
  have h := leaf_fwd (s := s) (p := p)
  have hg := glyph_fit s p
  cases e : leafP s p with
  | bad => trivial
  | ok x q =>
    rw [e] at h
    have h1 := h.1
    show p + x.sz ≤ q
    unfold leafP at e
    split at e
    · split at e
      · cases e
      · split at e
        · split at e
          · cases e
          · split at e
            · injection e with e e2
              subst e
              have hz : ∀ a b : Int, (gapI a b).sz = 1 := fun a b => by unfold gapI; rw [Itm.sz]; simp [szL]
              rw [hz]; omega
            · cases e
        · cases e
    · rw [e] at hg; exact hg
theorem over_fit {s : ByteArray} {ab : AbF} (h : ∀ w, FtF fun p => ab p w) (p : Nat) : (overP s ab p).fitO p := by
  unfold overP
  split
  · have h1 := h true (p + 1)
    cases e : ab (p + 1) true with
    | bad => trivial
    | ok x q =>
      simp only [e] at h1
      have h2 : p + 1 + x.sz ≤ q := h1
      simp only []
      split
      · show p + x.sz ≤ q + 1; omega
      · trivial
  · have h1 := leaf_fit s p
    cases e : leafP s p with
    | bad => trivial
    | ok x q =>
      rw [e] at h1
      have h2 : p + x.sz ≤ q := h1
      simp only []
      split
      · have h3 := leaf_fit s (q + 1)
        cases e2 : leafP s (q + 1) with
        | bad => trivial
        | ok y q2 =>
          rw [e2] at h3
          have h4 : q + 1 + y.sz ≤ q2 := h3
          show p + (kI 4 [x, y]).sz ≤ q2
          rw [sz_kI]
          simp [szL]
          omega
      · exact h2
/-- The same for lists: the bytes between them are counted. -/
def PR.fitL (p : Nat) : PR (List Itm) → Prop
  | .bad _ => True
  | .ok ks q => p + szL ks + (ks.length - 1) ≤ q ∧ 1 ≤ ks.length
theorem loop_fit {s : ByteArray} {c : Int} {f : Nat → PR Itm} (h : FtF f) (p0 : Nat) : ∀ n ks p, p0 + szL ks + (ks.length - 1) ≤ p → 1 ≤ ks.length → (loopP s c f n ks p).fitL p0
  | 0, _, _, _, _ => trivial
  | n + 1, ks, p, hp, hk => by
    unfold loopP
    split
    · have h1 := h (p + 1)
      cases e : f (p + 1) with
      | bad => trivial
      | ok x q =>
        rw [e] at h1
        have h2 : p + 1 + x.sz ≤ q := h1
        exact loop_fit h p0 n (ks ++ [x]) q (by rw [szL_app, szL_one, List.length_append]; simp; omega) (by simp)
    · exact ⟨hp, hk⟩
theorem one_fit {k : Int} {r : PR (List Itm)} {p : Nat} (h : r.fitL p) : (oneP k r).fit p := by
  cases r with
  | bad => trivial
  | ok ks q =>
    have h1 : p + szL ks + (ks.length - 1) ≤ q := h.1
    have h2 : 1 ≤ ks.length := h.2
    have h3 := sz_one k ks
    show p + (oneI k ks).sz ≤ q
    split at h3 <;> omega
theorem all_fit {s : ByteArray} {c : Int} {f : Nat → PR Itm} (h : FtF f) {x : Itm} {p q : Nat} (hx : p + x.sz ≤ q) : (allP s c f x q).fitL p := loop_fit h p _ _ _ (by rw [szL_one]; simpa using hx) (by simp)
theorem beside_fit {s : ByteArray} {ab : AbF} (h : ∀ w, FtF fun p => ab p w) : FtF (besideP s ab) := by
  intro p
  unfold besideP
  have h1 := over_fit (s := s) h p
  cases e : overP s ab p with
  | bad => trivial
  | ok x q =>
    rw [e] at h1
    simp only []
    split
    · trivial
    · refine one_fit (all_fit (fun p' => ?_) h1)
      have h2 := over_fit (s := s) h p'
      show (fstP (overP s ab p')).fit p'
      cases e2 : overP s ab p' with
      | bad => trivial
      | ok y r => rw [e2] at h2; exact h2
theorem above_fit {s : ByteArray} {ab : AbF} (h : ∀ w, FtF fun p => ab p w) (w : Bool) : FtF fun p => aboveP s ab p w := by
  intro p
  simp only [aboveP]
  have h1 := beside_fit (s := s) h p
  cases e : besideP s ab p with
  | bad => trivial
  | ok x q =>
    rw [e] at h1
    simp only []
    split
    · trivial
    · exact one_fit (all_fit (beside_fit h) h1)
theorem aboveN_fit (s : ByteArray) : ∀ n w, FtF fun p => aboveN s n p w
  | 0, w => above_fit (ab := fun p _ => .bad p) (fun _ _ => trivial) w
  | n + 1, w => above_fit (aboveN_fit s n) w
theorem aboveS_fit (s : ByteArray) (w : Bool) : FtF fun p => aboveS s p w := fun p => aboveN_fit s (s.size - p) w p
theorem shut_fit {s : ByteArray} {k c : Int} {p : Nat} {r : PR (List Itm)} (h : r.fitL p) : (shutP s k c r).fit p := by
  cases r with
  | bad => trivial
  | ok ks q =>
    have h1 : p + szL ks + (ks.length - 1) ≤ q := h.1
    simp only [shutP]
    split
    · show p + (kI k ks).sz ≤ q + 1
      rw [sz_kI]; omega
    · trivial
theorem fit_less {r : PR Itm} {p q : Nat} (h : r.fit q) (hp : p ≤ q) : r.fit p := by
  cases r with
  | bad => trivial
  | ok x r => have h1 : q + x.sz ≤ r := h; show p + x.sz ≤ r; omega
theorem part_fit (s : ByteArray) : FtF (partP s) := by
  intro p
  unfold partP
  split
  · have h1 := aboveS_fit s false (p + 1)
    cases e : aboveS s (p + 1) false with
    | bad => trivial
    | ok x q =>
      simp only [e] at h1
      exact fit_less (shut_fit (all_fit (aboveS_fit s false) h1)) (Nat.le_succ p)
  · exact aboveS_fit s false p
theorem group_fit (s : ByteArray) : FtF (groupP s) := by
  intro p
  unfold groupP
  split
  · have h1 := part_fit s (p + 1)
    cases e : partP s (p + 1) with
    | bad => trivial
    | ok x q =>
      rw [e] at h1
      exact fit_less (shut_fit (all_fit (part_fit s) h1)) (Nat.le_succ p)
  · exact part_fit s p
/-- A string that is read has no more nodes than bytes. -/
theorem parse_fit {s : ByteArray} {ks : List Itm} {q : Nat} (h : parseP s = .ok ks q) : szL ks ≤ s.size := by
  unfold parseP at h
  split at h
  · injection h with h _
    subst h
    simp [szL]
  · unfold readP at h
    have h1 := group_fit s 0
    have hf := group_fwd s 0
    cases e : groupP s 0 with
    | bad => rw [e] at h; cases h
    | ok x r =>
      rw [e] at h h1 hf
      simp only [] at h
      have h2 : (allP s 45 (groupP s) x r).fitL 0 := all_fit (group_fit s) h1
      have h3 : (allP s 45 (groupP s) x r).fwd s r := loop_fwd (group_fwd s) _ _ _ hf.2
      cases e2 : allP s 45 (groupP s) x r with
      | bad => rw [e2] at h; cases h
      | ok l t =>
        rw [e2] at h h2 h3
        simp only [] at h
        split at h
        · cases h
        · injection h with h _
          subst h
          have := h2.1; have := h3.2
          omega
end Go.Proofs.YtimblabaeclhpaaGreat

/- PLAIN LAW: the codes that were read are no longer than the string. -/
namespace Go.Proofs.YtimblabaeclhpaaGreat
mutual
def Itm.cod (M : Nat) : Itm → Prop
  | .mk _ c _ kids => c.size ≤ M ∧ codL M kids
def codL (M : Nat) : List Itm → Prop
  | [] => True
  | x :: ks => x.cod M ∧ codL M ks
end
theorem codL.at {M : Nat} : ∀ {ks : List Itm} (_ : codL M ks) (i : Nat) (hi : i < ks.length), (ks[i]).cod M
  | x :: ks, h, 0, _ => by rw [codL] at h; exact h.1
  | x :: ks, h, i + 1, hi => by rw [codL] at h; exact codL.at h.2 i (by simpa using hi)
theorem codL_snoc {M : Nat} {x : Itm} (hx : x.cod M) : ∀ {ks : List Itm}, codL M ks → codL M (ks ++ [x])
  | [], _ => by rw [List.nil_append, codL, codL]; exact ⟨hx, trivial⟩
  | y :: ks, h => by rw [codL] at h; rw [List.cons_append, codL]; exact ⟨h.1, codL_snoc hx h.2⟩
theorem codL_one {M : Nat} {x : Itm} (hx : x.cod M) : codL M [x] := by rw [codL, codL]; exact ⟨hx, trivial⟩
theorem cod_kI {M : Nat} {k : Int} {ks : List Itm} (h : codL M ks) : (kI k ks).cod M := by unfold kI; rw [Itm.cod]; exact ⟨Nat.zero_le _, h⟩
theorem cod_oneI {M : Nat} {k : Int} {ks : List Itm} (h : codL M ks) : (oneI k ks).cod M := by
  match ks, h with
  | [], h => exact cod_kI h
  | [x], h => rw [codL] at h; exact h.1
  | x :: y :: l, h => exact cod_kI h
def PR.cod (M : Nat) : PR Itm → Prop
  | .bad _ => True
  | .ok x _ => x.cod M
def PR.codO (M : Nat) : PR (Itm × Bool) → Prop
  | .bad _ => True
  | .ok x _ => x.1.cod M
def PR.codL (M : Nat) : PR (List Itm) → Prop
  | .bad _ => True
  | .ok x _ => Go.Proofs.YtimblabaeclhpaaGreat.codL M x
def CdF (M : Nat) (f : Nat → PR Itm) : Prop := ∀ p, (f p).cod M
theorem glyph_cod (s : ByteArray) : CdF s.size (glyphP s) := fun p => by
  cases e : glyphP s p with
  | bad => trivial
  | ok x q =>
    unfold glyphP at e
    split at e
    · simp only [] at e
      split at e
      · cases e
      · injection e with e _
        subst e
        show Itm.cod _ _; unfold glyphI
        rw [Itm.cod, codL]
        refine ⟨?_, trivial⟩
        rw [ByteArray.size_extract]
        omega
    · cases e
theorem leaf_cod (s : ByteArray) : CdF s.size (leafP s) := fun p => by
  have hg := glyph_cod s p
  cases e : leafP s p with
  | bad => trivial
  | ok x q =>
    unfold leafP at e
    split at e
    · split at e
      · cases e
      · split at e
        · split at e
          · cases e
          · split at e
            · injection e with e e2
              subst e
              show Itm.cod _ _; unfold gapI
              rw [Itm.cod, codL]
              exact ⟨Nat.zero_le _, trivial⟩
            · cases e
        · cases e
    · rw [e] at hg; exact hg
theorem over_cod {s : ByteArray} {ab : AbF} (h : ∀ w, CdF s.size fun p => ab p w) (p : Nat) : (overP s ab p).codO s.size := by
  unfold overP
  split
  · have h1 := h true (p + 1)
    cases e : ab (p + 1) true with
    | bad => trivial
    | ok x q =>
      simp only [e] at h1
      simp only []
      split
      · exact h1
      · trivial
  · have h1 := leaf_cod s p
    cases e : leafP s p with
    | bad => trivial
    | ok x q =>
      rw [e] at h1
      simp only []
      split
      · have h3 := leaf_cod s (q + 1)
        cases e2 : leafP s (q + 1) with
        | bad => trivial
        | ok y q2 =>
          rw [e2] at h3
          show (kI 4 [x, y]).cod s.size
          refine cod_kI ?_
          rw [codL]
          exact ⟨h1, codL_one h3⟩
      · exact h1
theorem loop_cod {s : ByteArray} {c : Int} {f : Nat → PR Itm} (h : CdF s.size f) : ∀ n ks p, codL s.size ks → (loopP s c f n ks p).codL s.size
  | 0, _, _, _ => trivial
  | n + 1, ks, p, hp => by
    unfold loopP
    split
    · have h1 := h (p + 1)
      cases e : f (p + 1) with
      | bad => trivial
      | ok x q =>
        rw [e] at h1
        exact loop_cod h n (ks ++ [x]) q (codL_snoc h1 hp)
    · exact hp
theorem one_cod {M : Nat} {k : Int} {r : PR (List Itm)} (h : r.codL M) : (oneP k r).cod M := by
  cases r with
  | bad => trivial
  | ok ks q => exact cod_oneI h
theorem all_cod {s : ByteArray} {c : Int} {f : Nat → PR Itm} (h : CdF s.size f) {x : Itm} {q : Nat} (hx : x.cod s.size) : (allP s c f x q).codL s.size := loop_cod h _ _ _ (codL_one hx)
theorem beside_cod {s : ByteArray} {ab : AbF} (h : ∀ w, CdF s.size fun p => ab p w) : CdF s.size (besideP s ab) := by
  intro p
  unfold besideP
  have h1 := over_cod (s := s) h p
  cases e : overP s ab p with
  | bad => trivial
  | ok x q =>
    rw [e] at h1
    simp only []
    split
    · trivial
    · refine one_cod (all_cod (fun p' => ?_) h1)
      have h2 := over_cod (s := s) h p'
      show (fstP (overP s ab p')).cod s.size
      cases e2 : overP s ab p' with
      | bad => trivial
      | ok y r => rw [e2] at h2; exact h2
theorem above_cod {s : ByteArray} {ab : AbF} (h : ∀ w, CdF s.size fun p => ab p w) (w : Bool) : CdF s.size fun p => aboveP s ab p w := by
  intro p
  simp only [aboveP]
  have h1 := beside_cod (s := s) h p
  cases e : besideP s ab p with
  | bad => trivial
  | ok x q =>
    rw [e] at h1
    simp only []
    split
    · trivial
    · exact one_cod (all_cod (beside_cod h) h1)
theorem aboveN_cod (s : ByteArray) : ∀ n w, CdF s.size fun p => aboveN s n p w
  | 0, w => above_cod (ab := fun p _ => .bad p) (fun _ _ => trivial) w
  | n + 1, w => above_cod (aboveN_cod s n) w
theorem aboveS_cod (s : ByteArray) (w : Bool) : CdF s.size fun p => aboveS s p w := fun p => aboveN_cod s (s.size - p) w p
theorem shut_cod {s : ByteArray} {k c : Int} {r : PR (List Itm)} (h : r.codL s.size) : (shutP s k c r).cod s.size := by
  cases r with
  | bad => trivial
  | ok ks q =>
    simp only [shutP]
    split
    · exact cod_kI (k := k) h
    · trivial
theorem part_cod (s : ByteArray) : CdF s.size (partP s) := by
  intro p
  unfold partP
  split
  · have h1 := aboveS_cod s false (p + 1)
    cases e : aboveS s (p + 1) false with
    | bad => trivial
    | ok x q =>
      simp only [e] at h1
      exact shut_cod (all_cod (aboveS_cod s false) h1)
  · exact aboveS_cod s false p
theorem group_cod (s : ByteArray) : CdF s.size (groupP s) := by
  intro p
  unfold groupP
  split
  · have h1 := part_cod s (p + 1)
    cases e : partP s (p + 1) with
    | bad => trivial
    | ok x q =>
      rw [e] at h1
      exact shut_cod (all_cod (part_cod s) h1)
  · exact part_cod s p
/-- The codes of a string that is read are no longer than it. -/
theorem parse_cod {s : ByteArray} {ks : List Itm} {q : Nat} (h : parseP s = .ok ks q) : codL s.size ks := by
  unfold parseP at h
  split at h
  · injection h with h _
    subst h
    rw [codL]; trivial
  · unfold readP at h
    have h1 := group_cod s 0
    cases e : groupP s 0 with
    | bad => rw [e] at h; cases h
    | ok x r =>
      rw [e] at h h1
      simp only [] at h
      have h2 : (allP s 45 (groupP s) x r).codL s.size := all_cod (group_cod s) h1
      cases e2 : allP s 45 (groupP s) x r with
      | bad => rw [e2] at h; cases h
      | ok l t =>
        rw [e2] at h h2
        simp only [] at h
        split at h
        · cases h
        · injection h with h _
          subst h
          exact h2
end Go.Proofs.YtimblabaeclhpaaGreat
