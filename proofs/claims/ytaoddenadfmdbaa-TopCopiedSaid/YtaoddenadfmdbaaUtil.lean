/- UTIL: small words that the walks use: rows, worlds, regions. -/
import Derived.Test.YtaoddenadfmdbaaBase
import Derived.RangeFuncNested
import Derived.RangeFuncBound
import Derived.RangeFuncCalls
import Derived.RangeFuncLeaves
import Derived.OwnWalkIn
import Derived.TacticsInMore
import Derived.LoopNIn
import Derived.LoopIn
import Derived.Stop.RegionWithIn
import Derived.Sort.QuietIn
import Derived.Lib.LazyBuf
namespace Go.Proofs.Ytaoddenadfmdbaa
open Go.RowKit
theorem below_drewN {B : Nat} {a w : World} (h : Below B a w) (n : Nat) : Below B a (w.drewN n) := ⟨h.os, h.tape, h.output, h.size, h.block⟩
theorem own_slice {w : World} {base : Nat} {e : TypeId} {size n : Nat} {v : Value} {xs : List Value} (h : w.ownsRow base e size v n xs) : ∃ A c, v = .slice A n c := by
  rcases h.2 with ⟨rfl, rfl⟩ | ⟨g, cap, cur, rfl, _⟩
  · exact ⟨_, _, rfl⟩
  · exact ⟨_, _, rfl⟩
theorem Reads.at0 {w : World} {B size n : Nat} {A : Option Addr} {xs : List Value} (h : Reads w B size A n xs) (hn : 0 < n) (hl : 0 < xs.length) :
    ∃ b o, A = some ⟨b, o, none⟩ ∧ b < B ∧ ∀ j u, xs[j]? = some u → w.cell? ⟨b, o + j, none⟩ = some u := by
  obtain ⟨ad, rfl, hb, hc⟩ := h.2 hn
  have h0 := hc 0 _ (List.getElem?_eq_getElem hl)
  obtain ⟨b, o, s⟩ := ad
  have hs : s = none := by simpa [Addr.add] using World.cell?_spot h0
  subst hs
  refine ⟨b, o, rfl, hb, fun j u hj => ?_⟩
  have := hc j u hj
  rwa [Addr.add_lit] at this
theorem own_keep {w w' : World} {B : Nat} {v : Value} {e : TypeId} {size n : Nat} {xs : List Value} (h : w.ownsRow B e size v n xs) (hb : Below w.heap.size w w') : w'.ownsRow B e size v n xs := by
  obtain ⟨h1, h2⟩ := h
  refine ⟨h1, ?_⟩
  rcases h2 with h2 | ⟨g, cap, cur, hv, hg, hh, r⟩
  · exact Or.inl h2
  · exact Or.inr ⟨g, cap, cur, hv, hg, by rw [hb.block g (lt_of_block hh)]; exact hh, r⟩
theorem grown_of_below {w w' : World} (h : Below w.heap.size w w') : w.grownBy w' none := ⟨h.os, h.tape, h.output, h.size, fun k hk _ => h.block k hk⟩
/-- A world in which all below n₀ is as it was. -/
structure BW (n0 : Nat) (w : World) where
  val : World
  ok : Below n0 w val
instance (n0 : Nat) (w : World) : Nonempty (BW n0 w) := ⟨⟨w, Below.refl _ _⟩⟩
/-- A region that draws its order, and whose operations and callees leave all below n₀ as it was: one walk, in the order of the text. -/
theorem region_below {P : Program} {l : List Oper} {id n0 : Nat} {wb w : World} {Q : Exit → Act → World → Prop} {a : Act} (hm : P.follows .mixedOrders = true) (hB : Region.lexB .any l.toArray = true) (hb : Below n0 wb w)
    (h : wpQuiet P l.toArray (fun w' => ∃ z : BW n0 wb, w' = z.val) (fun a' => ∀ w', (∃ z : BW n0 wb, w' = z.val) → Q .normal a' w') l a) : (Code.region id l.toArray true).wp P Q a w :=
  wp_region_quiet hm hB ⟨⟨w.drew, hb.drew⟩, rfl⟩ h
/-- A contract, in the class of worlds in which all below n₀ is as it was. -/
theorem below_class {P : Program} {f n0 : Nat} {args : Array Value} {wb : World} {v : Value} (hn : n0 ≤ wb.heap.size) (h : ∀ z : BW n0 wb, Calls P f args z.val fun e w' => e = .returned v ∧ Below z.val.heap.size z.val w') (z : BW n0 wb) : Calls P f args z.val fun e w' => e = .returned v ∧ ∃ z' : BW n0 wb, w' = z'.val :=
  (h z).mono fun _ w' ⟨he, hb⟩ => ⟨he, ⟨w', z.ok.trans (hb.mono (Nat.le_trans hn z.ok.size))⟩, rfl⟩
end Go.Proofs.Ytaoddenadfmdbaa
