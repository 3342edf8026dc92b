/- BASE: the small words that the walks use (slices that read as lists, blocks known whole), and the table's rows of the element types. -/
import Derived.Test.YtaoddenadfmdbaaRows
import Derived.WalkKit
import Derived.WalkSpells
import Derived.WalkLawsBesides
import Derived.Below
import Derived.Laws.OwnMore
import Derived.Deep.AppendLies
import Derived.Deep.Draws
import Derived.Deep.RegionLaw
import Derived.Deep.RegionHeld3
import Derived.Deep.OwnRows
import Derived.Deep.QuietTactic
import Derived.BigQuiet
import Derived.StillTailTactics
namespace Go.Proofs.Ytaoddenadfmdbaa
open Go.RowKit
theorem hid {p : Prop} (h : p) : Hid p := h
theorem block_of_add (a : Addr) (n : Nat) : (a.add n).block = a.block := by unfold Addr.add; split <;> rfl
/-- A slice value with n elements of size cells each reads as the cells xs, all of it in blocks below B. -/
def Reads (w : World) (B size : Nat) (A : Option Addr) (n : Nat) (xs : List Value) : Prop :=
  xs.length = n * size ∧ (0 < n → ∃ ad, A = some ad ∧ ad.block < B ∧ ∀ j u, xs[j]? = some u → w.cell? (ad.add j) = some u)
section
variable {w w' : World} {B B' size n : Nat} {A : Option Addr} {xs : List Value}
theorem Reads.at_ {k : Nat} (h : Reads w B 1 A n xs) (hk : k < n) : ∃ ad u, A = some ad ∧ ad.block < B ∧ xs[k]? = some u ∧ w.cell? (ad.add k) = some u := by
  obtain ⟨ad, e, hb, hc⟩ := h.2 (by omega)
  have hl : k < xs.length := by have := h.1; omega
  exact ⟨ad, xs[k], e, hb, List.getElem?_eq_getElem hl, hc k _ (List.getElem?_eq_getElem hl)⟩
theorem Reads.keep (h : Reads w B size A n xs) (hk : ∀ p : Addr, p.block < B → w'.cell? p = w.cell? p) : Reads w' B size A n xs :=
  ⟨h.1, fun hn => by
    obtain ⟨ad, e, hb, hc⟩ := h.2 hn
    exact ⟨ad, e, hb, fun j u hu => (hk _ (by rw [block_of_add]; exact hb)).trans (hc j u hu)⟩⟩
theorem Reads.more (h : Reads w B size A n xs) (hB : B ≤ B') : Reads w B' size A n xs :=
  ⟨h.1, fun hn => by
    obtain ⟨ad, e, hb, hc⟩ := h.2 hn
    exact ⟨ad, e, by omega, hc⟩⟩
theorem Reads.below (h : Reads w B size A n xs) (hb : Below B w w') : Reads w' B size A n xs := h.keep fun _ hp => hb.cell hp
theorem Reads.of_own {base : Nat} {e : TypeId} {c : Nat} (h : w.ownsRow base e size (.slice A n c) n xs) : Reads w w.heap.size size A n xs := by
  refine ⟨h.1, fun hn => ?_⟩
  obtain ⟨g, cap, hv, _, hlt⟩ := h.form hn
  have hA : A = some ⟨g, 0, none⟩ := by injection hv
  subst hA
  exact ⟨_, rfl, hlt, h.cells (g := g) rfl⟩
end
/-- A literal slice that has just been made. -/
theorem own_lit (w : World) {B : Nat} (e : TypeId) (cs : Array Value) {n size : Nat} (hB : B ≤ w.heap.size) (hs : cs.size = n * size) (hm : n ≤ maxLen) :
    (w.alloc (.cells cs e)).ownsRow B e size (.slice (some ⟨w.heap.size, 0, none⟩) n n) n cs.toList :=
  ⟨by simpa using hs, .inr ⟨w.heap.size, n, cs, rfl, hB, heap_alloc_new w _, Nat.le_refl _, hm, hs, List.take_of_length_le (by simp; omega)⟩⟩
section
variable {w0 w w' : World} {B : Nat}
end
/-- Cells of numbers. -/
def ints (l : List Int) : List Value := l.map (Value.int .i64)
theorem ints_get {l : List Int} {k : Nat} (h : k < l.length) : (ints l)[k]? = some (.int .i64 (l.getD k 0)) := by
  simp [ints, List.getElem?_eq_getElem h, List.getD]
theorem cell_set_far {w : World} {g k b o : Nat} {v u : Value} (h : w.cell? ⟨b, o, none⟩ = some u) (hne : g ≠ b ∨ k ≠ o) : (w.setCell ⟨g, k, none⟩ v).cell? ⟨b, o, none⟩ = some u := by
  rw [World.cell?_setCell_other w ⟨g, k, none⟩ ⟨b, o, none⟩ v (fun e => by injection e with e1 e2; omega)]
  exact h
/-- Element j of a list of numbers (a name that the walk leaves alone). -/
def nth (l : List Int) (j : Nat) : Int := l.getD j 0
/-- A slice of numbers that is only read. -/
def Rd (w : World) (B : Nat) (A : Option Addr) (l : List Int) : Prop := Reads w B 1 A l.length (ints l)
theorem Rd.at {w : World} {B : Nat} {A : Option Addr} {l : List Int} (h : Rd w B A l) (hl : 0 < l.length) :
    ∃ b o, A = some ⟨b, o, none⟩ ∧ b < B ∧ ∀ j, j < l.length → w.cell? ⟨b, o + j, none⟩ = some (.int .i64 (nth l j)) := by
  obtain ⟨ad, rfl, hb, hc⟩ := h.2 hl
  have h0 := hc 0 _ (ints_get hl)
  obtain ⟨b, o, s⟩ := ad
  have hs : s = none := by simpa [Addr.add] using World.cell?_spot h0
  subst hs
  refine ⟨b, o, rfl, hb, fun j hj => ?_⟩
  have := hc j _ (ints_get hj)
  rwa [Addr.add_lit] at this
theorem Rd.below {w w' : World} {B : Nat} {A : Option Addr} {l : List Int} (h : Rd w B A l) (hb : Below B w w') : Rd w' B A l := Reads.below h hb
theorem Rd.more {w : World} {B B' : Nat} {A : Option Addr} {l : List Int} (h : Rd w B A l) (hB : B ≤ B') : Rd w B' A l := Reads.more h hB
/-- One element of several cells. -/
theorem app_elem {P : Program} {ops : Array Oper} {rest : List Oper} {o : Oper} {a : Act} {w : World} {Q : Exit → Act → World → Prop} (hgd : o.guard = none) (s x : Operand) {t e : TypeId} {z : Value} {size bytes : Nat}
    (ht : P.underlying t = some (.slice e)) (hinfo : (P.info? e).map (fun i => (i.zero, i.size, i.bytes)) = some (some z, size, bytes)) (hz1 : z.cells.size = size) (hsz : 0 < size) (hb8 : bytes ≤ 1000)
    (ho : o.op = .call { callee := .builtin .append, args := #[s, x], argTypes := #[t, t] })
    (base : Nat) (v : Value) (n : Nat) (xs : List Value) (hs : a.eval s = v) (hown : w.ownsRow base e size v n xs)
    (ad : Addr) (ys : List Value) (hx : a.eval x = .slice (some ad) 1 1) (hl : ys.length = size) (hy : ∀ j u, ys[j]? = some u → w.cell? (ad.add j) = some u) (hy1 : ∀ u ∈ ys, u.oneCell' = true) (hn : n ≤ 10000000000) (hbase : base ≤ w.heap.size)
    (h : ∀ v' w', w'.ownsRow base e size v' (n + 1) (xs ++ ys) → w.grownBy w' v.ownBlock → wpList P ops Q rest (a.put o.dst v') w') : wpList P ops Q (o :: rest) a w := by
  obtain ⟨i0, hi, hz0, hzz, hz2⟩ := info_parts hinfo
  have hm : (n + 1) * bytes ≤ 140737488355328 := by
    have := Nat.mul_le_mul_left (n + 1) hb8
    omega
  exact wpList_append_own w hgd s x t ho base e i0 z size bytes ht hi hz0 hzz hz2 hz1 hsz v n xs hs hown ad 1 1 ys hx (by omega) hy hy1 (by unfold maxLen; omega) hm hbase (fun v' w' a b _ => h v' w' a b)
theorem cell_news (w : World) (ys : List Value) (t : TypeId) : ∀ j u, ys[j]? = some u → (w.alloc (.cells ys.toArray t)).cell? ((⟨w.heap.size, 0, none⟩ : Addr).add j) = some u := by
  intro j u hj
  rw [Addr.add_lit, Nat.zero_add, World.cell?_alloc_new]
  simpa using hj
theorem cell_news_at {n : Nat} (w : World) (ys : List Value) (t : TypeId) (hn : n = w.heap.size) : ∀ j u, ys[j]? = some u → (w.alloc (.cells ys.toArray t)).cell? ((⟨n, 0, none⟩ : Addr).add j) = some u := by
  subst hn; exact cell_news w ys t
theorem own_base {w : World} {B B' : Nat} {v : Value} {e : TypeId} {size n : Nat} {xs : List Value} (h : w.ownsRow B e size v n xs) (hB : B' ≤ B) : w.ownsRow B' e size v n xs := by
  refine ⟨h.1, ?_⟩
  rcases h.2 with h2 | ⟨g, cap, cur, hv, hg, r⟩
  · exact .inl h2
  · exact .inr ⟨g, cap, cur, hv, Nat.le_trans hB hg, r⟩
theorem below_app {w0 w w' : World} {B B' : Nat} {v : Value} {e : TypeId} {size n : Nat} {xs : List Value} (h : Below B w0 w) (hown : w.ownsRow B' e size v n xs) (hg : w.grownBy w' v.ownBlock) (hB : B ≤ B') (hs : B ≤ w.heap.size) : Below B w0 w' :=
  h.grown hg hs (fun k e' => Nat.le_trans hB (hown.lt k e').1)
end Go.Proofs.Ytaoddenadfmdbaa
