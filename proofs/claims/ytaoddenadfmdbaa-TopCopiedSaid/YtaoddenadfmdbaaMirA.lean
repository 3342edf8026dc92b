/- WALK: ostracontop.small. -/
import Derived.Test.YtaoddenadfmdbaaSgn6
import Derived.Deep.Cut
import Derived.Test.YtaoddenadfmdbaaUtil
import Derived.Test.YtaoddenadfmdbaaSgn2
import Derived.Test.YtaoddenadfmdbaaOwn
import Derived.Test.YtaoddenadfmdbaaSgn7
import Derived.Test.YtaoddenadfmdbaaCopy
import Derived.Test.YtaoddenadfmdbaaStrs
namespace Go.Proofs.Ytaoddenadfmdbaa
open Go.RowKit
set_option maxRecDepth 100000 in
set_option maxHeartbeats 2000000 in
theorem smallT_any (P : Int) (ss : List Sg) (A : Option Addr) (c : Nat) (w : World) (hs : ss.length ≤ 12 → Calls Try.prog 13 #[.agg #[.int .i64 P, .slice A ss.length c]] (w.alloc (.cells #[.int .i64 P, .slice A ss.length c] 24)) fun e w' => e = .returned (.int .i64 (listE P ss)) ∧ Below (w.alloc (.cells #[.int .i64 P, .slice A ss.length c] 24)).heap.size (w.alloc (.cells #[.int .i64 P, .slice A ss.length c] 24)) w') :
    Calls Try.prog 4 #[.agg #[.int .i64 P, .slice A ss.length c]] w fun e w' => e = .returned (.bool (decide (ss.length ≤ 12 ∧ listE P ss = 0))) ∧ Below w.heap.size w w' := by
  by_cases h : ss.length ≤ 12
  · have HS := hid (hs h)
    have HX := hid (show decide (ss.length ≤ 12 ∧ listE P ss = 0) = (listE P ss == 0) by by_cases e : listE P ss = 0 <;> simp [h, e])
    have e1 : decide (ss.length ≤ 12) = true := decide_eq_true h
    have e2 : (ss.length : Int) ≤ 12 := by omega
    generalize listE P ss = E at *
    clear hs h
    go_enter Try.func4, Try.ntmps4
    go_wp2_with (first | (go_at_call 13; refine HS.out.mono ?_; rintro e w2 ⟨rfl, hb2⟩; have HB2 := hid hb2; clear hb2))
    go_ret
    exact ⟨by rw [HX.out]; rfl, ((Below.refl _ _).alloc (Nat.le_refl _) _).trans (HB2.out.mono (by simp))⟩
  · have HX := hid (show decide (ss.length ≤ 12 ∧ listE P ss = 0) = false by simp [h])
    have e1 : decide ((ss.length : Int) ≤ 12) = false := decide_eq_false (by omega)
    clear hs h
    go_enter Try.func4, Try.ntmps4
    go_wp2_with fail
    go_ret
    exact ⟨by rw [HX.out]; rfl, (Below.refl _ _).alloc (Nat.le_refl _) _⟩
end Go.Proofs.Ytaoddenadfmdbaa

/- WALK: groups.Line; what the law of the mirror needs besides. -/
namespace Go.Proofs.Ytaoddenadfmdbaa
open Go.RowKit Go.Shelf
theorem firstE_congr {f g : Nat → Int} : ∀ {n : Nat}, (∀ k, k < n → f k = g k) → firstE f n = firstE g n
  | 0, _ => rfl
  | n + 1, h => by rw [firstE, firstE, firstE_congr fun k hk => h k (by omega), h n (by omega)]
theorem sg_core {ss ss' : List Sg} (h : ss'.map Sg.core = ss.map Sg.core) (i : Nat) : (sg ss' i).core = (sg ss i).core := by
  have e : ∀ l : List Sg, (sg l i).core = (l.map Sg.core).getD i (default : Sg).core := fun l => by
    unfold sg
    rw [List.getD_eq_getElem?_getD, List.getD_eq_getElem?_getD, List.getElem?_map]
    cases l[i]? <;> rfl
  rw [e, e, h]
theorem core_eq {s t : Sg} (h : s.core = t.core) : s.code = t.code ∧ s.wide = t.wide ∧ s.high = t.high ∧ s.even = t.even ∧ s.vals = t.vals := by
  obtain ⟨s1, s2, s3, s4, s5, s6, s7⟩ := s
  obtain ⟨t1, t2, t3, t4, t5, t6, t7⟩ := t
  simp only [Sg.core, Sg.mk.injEq, and_true] at h
  exact h
theorem sgE_core {P : Int} {s t : Sg} (h : s.core = t.core) : sgE P s = sgE P t := by
  obtain ⟨_, h2, h3, _, h5⟩ := core_eq h
  unfold sgE
  rw [h2, h3, h5]
theorem sameC_core {ss ss' : List Sg} (h : ss'.map Sg.core = ss.map Sg.core) (t : ByteArray) : sameC ss' t = sameC ss t := by
  funext j
  unfold sameC
  rw [(core_eq (sg_core h j)).1]
theorem sgnE_core {P : Int} {ss ss' : List Sg} (h : ss'.map Sg.core = ss.map Sg.core) (i : Nat) : sgnE P ss' i = sgnE P ss i := by
  unfold sgnE seenB
  rw [sameC_core h, (core_eq (sg_core h i)).1, sgE_core (sg_core h i)]
theorem core_len {ss ss' : List Sg} (h : ss'.map Sg.core = ss.map Sg.core) : ss'.length = ss.length := by
  have := congrArg List.length h
  simpa using this
theorem listE_core {P : Int} {ss ss' : List Sg} (h : ss'.map Sg.core = ss.map Sg.core) : listE P ss' = listE P ss := by
  unfold listE
  rw [core_len h, firstE_congr fun k _ => sgnE_core h k]
theorem rdn {w w' : World} {size n : Nat} {A : Option Addr} {xs : List Value} (h : Reads w w.heap.size size A n xs) (hb : Below w.heap.size w w') : Reads w' w'.heap.size size A n xs := (Reads.below h hb).more hb.size
theorem bnext {w1 w w' : World} (h : Below w1.heap.size w1 w) (hb : Below w.heap.size w w') : Below w1.heap.size w1 w' := h.trans (hb.mono h.size)
theorem LCopy.sgs {ss ss' : List Sg} {B : Nat} {A' : Option Addr} {c' : Nat} {w' : World} (h : LCopy ss ss' B A' c' w') : Sgs w' w'.heap.size A' ss' := ⟨Reads.of_own h.own, fun s hs => Reads.of_own (h.vals s hs)⟩
theorem own_cap' {w : World} {B n c size : Nat} {e : TypeId} {A : Option Addr} {xs : List Value} (h : w.ownsRow B e size (.slice A n c) n xs) : n ≤ c := by
  rcases h.2 with ⟨h2, h3⟩ | ⟨g, cap, cur, hv, _, _, h3, _⟩
  · omega
  · injection hv with _ _ h4
    omega
/-- A valid list's signs have at most 12 values each. -/
theorem list_vals {P : Int} {ss : List Sg} (h : listE P ss = 0) : ∀ s ∈ ss, s.vals.length ≤ 12 := by
  intro s hs
  obtain ⟨j, hj, rfl⟩ := List.getElem_of_mem hs
  have hsg := sg_at hj
  unfold listE at h
  split at h
  · omega
  · split at h
    · omega
    · have h1 := firstE_get h j hj
      unfold sgnE at h1
      split at h1
      · rw [hsg] at h1
        unfold sgE at h1
        split at h1
        · omega
        · split at h1
          · omega
          · omega
      · omega
/-- The copy of a small list, as the program's functions want it. -/
structure MCopy (P : Int) (ss ss' : List Sg) (A : Option Addr) (W : World) : Prop where
  sg : Sgs W W.heap.size A ss'
  core : ss'.map Sg.core = ss.map Sg.core
  list : listE P ss' = 0
  vals : ∀ s ∈ ss', s.vals.length ≤ 1000000 ∧ s.vals.length ≤ s.vc
  len : ss'.length ≤ 12
theorem MCopy.of {P : Int} {ss ss' : List Sg} {A : Option Addr} {c : Nat} {B : Nat} {W : World} (h : LCopy ss ss' B A c W) (hE : listE P ss = 0) (hl : ss.length ≤ 12) : MCopy P ss ss' A W :=
  ⟨h.sgs, h.core, (listE_core h.core).trans hE, fun s hs => ⟨Nat.le_trans (list_vals ((listE_core h.core).trans hE) s hs) (by decide), own_cap' (h.vals s hs)⟩, by rw [core_len h.core]; exact hl⟩
theorem MCopy.below {P : Int} {ss ss' : List Sg} {A : Option Addr} {W W' : World} (h : MCopy P ss ss' A W) (hb : Below W.heap.size W W') : MCopy P ss ss' A W' := ⟨(h.sg.below hb).more hb.size, h.core, h.list, h.vals, h.len⟩
end Go.Proofs.Ytaoddenadfmdbaa
