/- PLAIN LAW: each box of a layout is placed and within its line; which boxes are those of an Over. -/
import Derived.Test.YtimblabaeclhpaaGreatItL
namespace Go.Proofs.YtimblabaeclhpaaGreat
theorem stands_ok {len : Int} (hl : 0 ≤ len) : ∀ (xs : List Fr) (k : Nat) (st : Int × Int), StOk len k st → (∀ x ∈ xs, LgOk x) → ∀ c ∈ stands len xs st, 0 ≤ c.1 ∧ c.1 ≤ k + xs.length ∧ 0 ≤ c.2 ∧ c.2 ≤ len
  | [], _, _, _, _, c, h => by simp [stands] at h
  | x :: xs, k, st, hs, hx, c, h => by
    rw [stands] at h
    have h1 := hx x (by simp)
    rw [List.length_cons]
    rcases List.mem_cons.1 h with rfl | h
    · obtain ⟨⟨a1, a2⟩, a3, a4⟩ := stq_ok hl hs h1
      exact ⟨a1, by omega, a3, a4⟩
    · obtain ⟨a1, a2, a3, a4⟩ := stands_ok hl xs (k + 1) _ (stn_ok hl hs h1) (fun y hy => hx y (by simp [hy])) c h
      exact ⟨a1, by omega, a3, a4⟩
/-- What is known of an item. -/
structure ItOk (ss : List Sg) (l : List Nd) (rows : Bool) (t : Itg) : Prop where
  g : t.g < l.length
  p : t.p ∈ spotsN ss l rows l.length t.g 0 0
  l0 : 0 ≤ t.c.1
  l1 : t.c.1 ≤ 200
  a0 : 0 ≤ t.c.2
  a1 : t.c.2 ≤ 4800
/-- A placed box. -/
structure Bxv.placed (b : Bxv) : Prop where
  x : b.x.ok
  y : b.y.ok
  w : b.w.ok
  h : b.h.ok
  w0 : 0 < b.w.n
  h0 : 0 < b.h.n
  xe : b.xe.ok
  ye : b.ye.ok
/-- What the law looks at: numerator, denominator and size of a box across its line. -/
def lnN (way : Int) (b : Bxv) : Int := if 2 < way then (if way = 4 then -b.x.n * b.w.d - b.w.n * b.x.d else b.x.n) else b.y.n
def lnD (way : Int) (b : Bxv) : Int := if 2 < way then (if way = 4 then b.x.d * b.w.d else b.x.d) else b.y.d
def lnS (way : Int) (b : Bxv) : Fr := if 2 < way then b.w else b.h
structure Bxv.within (way : Int) (b : Bxv) : Prop where
  d0 : 0 < lnD way b
  n0 : 0 ≤ lnN way b
  fit : lnN way b * (lnS way b).d + (lnS way b).n * lnD way b ≤ (72 * (lnN way b / lnD way b / 72) + 48) * lnD way b * (lnS way b).d
end Go.Proofs.YtimblabaeclhpaaGreat

/- PLAIN LAW: where a node of a text stands in the plain text. -/
namespace Go.Proofs.YtimblabaeclhpaaGreat
/-- A valid text's plain text. -/
theorem pln_of {P : Int} {ss : List Sg} {l : List Nd} (h : chkE P ss l = 0) : Pln P ss (plR l l.length) := by
  obtain ⟨h1, h2, h3⟩ := val_of h
  refine ⟨h1, h3.plain, Nat.le_trans (plR_len l _) h2, fun i hi hk => ?_⟩
  rw [kd_at hi] at hk
  exact plR_no7 _ _ (List.getElem_mem hi) hk
end Go.Proofs.YtimblabaeclhpaaGreat
