/- The copies that a law hands to the program. -/
import Derived.Test.YtddbnggficlcfaaWorks
import Derived.Test.YtddbnggficlcfaaBig
import Derived.Test.YtddbnggficlcfaaPap
import Derived.Test.YtddbnggficlcfaaSameL
import Derived.Test.YtddbnggficlcfaaCore
import Derived.Test.YtddbnggficlcfaaChk1
import Derived.Deep.RegionHeld3
import Derived.Outline
namespace Go.Proofs.Ytddbnggficlcfaa
open Go.RowKit
theorem bcell {W w1 : World} (hb : Below W.heap.size W w1) : (∀ b o, b < W.heap.size → w1.cell? ⟨b, o, none⟩ = W.cell? ⟨b, o, none⟩) ∧ (∀ b o, b < W.heap.size → w1.frozen? ⟨b, o, none⟩ = W.frozen? ⟨b, o, none⟩) :=
  ⟨fun b o h => hb.cell (p := ⟨b, o, none⟩) h, fun b o h => hb.frozen (p := ⟨b, o, none⟩) h⟩
/-- A copy of a list and a copy of a text. -/
structure Copies (ss : List Sg) (l : List Nd) (ss' : List Sg) (A3 A4 : Option Addr) (c3 c4 : Nat) (W : World) : Prop where
  sg : Sgs W W.heap.size A3 ss'
  core : ss'.map Sg.core = ss.map Sg.core
  cap : ∀ s ∈ ss', s.vals.length ≤ s.vc
  nd : Nds W W.heap.size A4 l
  room : l.length ≤ c4
theorem Copies.mk' {ss : List Sg} {l : List Nd} {ss' : List Sg} {A3 A4 : Option Addr} {c3 c4 B B' : Nat} {W0 W : World} (h : LCopy ss ss' B A3 c3 W0) (hb : Below W0.heap.size W0 W) (ho : W.ownsRow B' 78 8 (.slice A4 l.length c4) l.length (flatN l)) : Copies ss l ss' A3 A4 c3 c4 W :=
  ⟨(h.below hb).sgs, h.core, h.cap, Reads.of_own ho, own_cap' ho⟩
theorem Copies.len {ss : List Sg} {l : List Nd} {ss' : List Sg} {A3 A4 : Option Addr} {c3 c4 : Nat} {W : World} (h : Copies ss l ss' A3 A4 c3 c4 W) : ss'.length = ss.length := core_len h.core
theorem Copies.vals {ss : List Sg} {l : List Nd} {ss' : List Sg} {A3 A4 : Option Addr} {c3 c4 : Nat} {W : World} (h : Copies ss l ss' A3 A4 c3 c4 W) (hv : ∀ s ∈ ss, s.vals.length ≤ 20) : ∀ s ∈ ss', s.vals.length ≤ 1000000 ∧ s.vals.length ≤ s.vc :=
  fun s hs => ⟨Nat.le_trans (vals_core h.core hv s hs) (by decide), h.cap s hs⟩
/-- list(p) and text(p), asked anywhere behind a world w1. -/
theorem list_at {P : Int} {ss : List Sg} {A : Option Addr} {c : Nat} {V : Value} {w w1 : World} (hl : ss.length ≤ 30) (hv : ∀ s ∈ ss, s.vals.length ≤ 20) (hw : Below w.heap.size w w1) (r : Sgs w w.heap.size A ss) (W : World) (h : Below w1.heap.size w1 W) :
    Calls Try.prog 17 #[.agg #[.int .i64 P, .slice A ss.length c, V]] W fun e w' => ∃ A' c' ss', e = .returned (.agg #[.int .i64 P, .slice A' ss'.length c']) ∧ LCopy ss ss' W.heap.size A' c' w' ∧ Below W.heap.size W w' :=
  list_any P ss A c V (by omega) (fun s hs => by have := hv s hs; omega) W ((r.below (hw.trans (h.mono hw.size))).more (Nat.le_trans hw.size h.size))
theorem text_at {P : Int} {A A2 : Option Addr} {N c : Nat} {l : List Nd} {c2 : Nat} {w w1 : World} (hl : l.length ≤ 210) (hw : Below w.heap.size w w1) (r : Nds w w.heap.size A2 l) (W : World) (h : Below w1.heap.size w1 W) :
    Calls Try.prog 18 #[.agg #[.int .i64 P, .slice A N c, .slice A2 l.length c2]] W fun e w' => ∃ A' c', e = .returned (.agg #[.slice A' l.length c']) ∧ w'.ownsRow W.heap.size 78 8 (.slice A' l.length c') l.length (flatN l) ∧ Below W.heap.size W w' :=
  text_any P A A2 N c l c2 (by omega) W ((r.below (hw.trans (h.mono hw.size))).more (Nat.le_trans hw.size h.size))
/-- What is read stays as it is behind a call. -/
theorem rdn {w w' : World} {size n : Nat} {A : Option Addr} {xs : List Value} (h : Reads w w.heap.size size A n xs) (hb : Below w.heap.size w w') : Reads w' w'.heap.size size A n xs := (Reads.below h hb).more hb.size
theorem rdn_d {w w' : World} {size n : Nat} {A : Option Addr} {xs : List Value} (h : Reads w w.heap.size size A n xs) (hb : Below w.drew.heap.size w.drew w') : Reads w' w'.heap.size size A n xs := rdn (w := w.drew) h hb
theorem bnext {w1 w w' : World} (h : Below w1.heap.size w1 w) (hb : Below w.heap.size w w') : Below w1.heap.size w1 w' := h.trans (hb.mono h.size)
end Go.Proofs.Ytddbnggficlcfaa
