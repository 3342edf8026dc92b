/- WALK: the copies of a paper (turned from the groups seat). -/
import Derived.Test.YtfkcpcdndleboaaCopy
import Derived.Outline
import Derived.Test.YtfkcpcdndleboaaCore
import Derived.Test.YtfkcpcdndleboaaLayE
import Derived.Test.YtfkcpcdndleboaaTextL
import Derived.Test.YtfkcpcdndleboaaBig
import Derived.Test.YtfkcpcdndleboaaSameT
import Derived.Test.YtfkcpcdndleboaaChk1
import Derived.Deep.RegionHeld3
namespace Go.Proofs.Ytfkcpcdndleboaa
open Go.RowKit
set_option maxRecDepth 100000 in
set_option maxHeartbeats 1000000 in
theorem text_any (P : Int) (A A2 : Option Addr) (N c : Nat) (l : List Nd) (c2 : Nat) (hl : l.length ≤ 1000000) (w : World) (r : Nds w w.heap.size A2 l) :
    Calls Try.prog 12 #[.agg #[.int .i64 P, .slice A N c, .slice A2 l.length c2]] w fun e w' => ∃ A' c', e = .returned (.agg #[.slice A' l.length c']) ∧ w'.ownsRow w.heap.size 49 8 (.slice A' l.length c') l.length (flatN l) ∧ Below w.heap.size w w' := by
  have HC := hid fun W (h : Below w.heap.size w W) => copyText_any l A2 c2 hl W ((r.below h).more h.size)
  have HB := hid (fun (x y : Obj) => ((Below.refl w.heap.size w).alloc (Nat.le_refl _) x).alloc (by simp) y)
  clear r
  generalize l.length = n at *
  go_enter Try.func12, Try.ntmps12
  go_wp2_with (first | (go_at_call 45; refine (HC.out _ (HB.out _ _)).mono ?_; rintro e w3 ⟨A3, c3, rfl, ho3, hb3⟩; have p3 := (hb3.cell (p := ⟨w.heap.size + 1, 0, none⟩) (by simp)).trans (cell_here (by simp) rfl); have z3 := (hb3.frozen (p := ⟨w.heap.size + 1, 0, none⟩) (by simp)).trans (free_here (by simp)); have HO := hid ho3; have HB3 := hid ((HB.out _ _).trans (hb3.mono (by simp; omega))); clear ho3 hb3))
  have hq := World.cell?_setCell_same _ _ (.slice A3 n c3) p3
  exact bodyPost_ret (v := .agg #[.slice A3 n c3]) (by simp [results, Try.results12, go_sem, hq]) rfl ⟨A3, c3, rfl, own_base (ownsRow_setCell_other HO.out (a := ⟨w.heap.size + 1, 0, none⟩) (fun he => by have := (HO.out.lt _ he).1; simp at this <;> omega) _) (by simp; omega), HB3.out.setCell (by simp) _⟩
set_option maxRecDepth 100000 in
set_option maxHeartbeats 1000000 in
theorem list_any (P : Int) (ss : List Sg) (A : Option Addr) (c : Nat) (V : Value) (hl : ss.length ≤ 1000000) (hv : ∀ s ∈ ss, s.vals.length ≤ 1000000) (w : World) (r : Sgs w w.heap.size A ss) :
    Calls Try.prog 14 #[.agg #[.int .i64 P, .slice A ss.length c, V]] w fun e w' => ∃ A' c' ss', e = .returned (.agg #[.int .i64 P, .slice A' ss'.length c']) ∧ LCopy ss ss' w.heap.size A' c' w' ∧ Below w.heap.size w w' := by
  have HC := hid fun W (h : Below w.heap.size w W) => copyList_any P ss A c hl hv W ((r.below h).more h.size)
  have HB := hid (fun (x y : Obj) => ((Below.refl w.heap.size w).alloc (Nat.le_refl _) x).alloc (by simp) y)
  clear r hv
  generalize ss.length = n at *
  go_enter Try.func14, Try.ntmps14
  go_wp2_with (first | (go_at_call 48; refine (HC.out _ (HB.out _ _)).mono ?_; rintro e w3 ⟨A3, c3, ss', rfl, hc3, hb3⟩; have p3 := (hb3.cell (p := ⟨w.heap.size + 1, 0, none⟩) (by simp)).trans (cell_here (by simp) rfl); have z3 := (hb3.frozen (p := ⟨w.heap.size + 1, 0, none⟩) (by simp)).trans (free_here (by simp)); have p4 := (hb3.cell (p := ⟨w.heap.size + 1, 1, none⟩) (by simp)).trans (cell_here (by simp) rfl); have z4 := (hb3.frozen (p := ⟨w.heap.size + 1, 1, none⟩) (by simp)).trans (free_here (by simp)); have HO := hid hc3; have HB3 := hid ((HB.out _ _).trans (hb3.mono (by simp; omega))); clear hc3 hb3))
  have q0 : ((w3.setCell ⟨w.heap.size + 1, 0, none⟩ (.int .i64 P)).setCell ⟨w.heap.size + 1, 1, none⟩ (.slice A3 ss'.length c3)).cell? ⟨w.heap.size + 1, 0, none⟩ = some (.int .i64 P) := cell_set_far (World.cell?_setCell_same _ _ _ p3) (.inr (by decide))
  have q1 : ((w3.setCell ⟨w.heap.size + 1, 0, none⟩ (.int .i64 P)).setCell ⟨w.heap.size + 1, 1, none⟩ (.slice A3 ss'.length c3)).cell? ⟨w.heap.size + 1, 1, none⟩ = some (.slice A3 ss'.length c3) := World.cell?_setCell_same _ _ _ (cell_set_far p4 (.inr (by decide)))
  exact bodyPost_ret (v := .agg #[.int .i64 P, .slice A3 ss'.length c3]) (by simp [results, Try.results14, go_sem, q0, q1]) rfl ⟨A3, c3, ss', rfl, ((HO.out.set (by simp)).set (by simp)).base (by simp; omega), (HB3.out.setCell (by simp) _).setCell (by simp) _⟩
end Go.Proofs.Ytfkcpcdndleboaa

/- PLAIN LAW: what a copied list gives: errors, sizes, scales, boxes are the same (the first part turned from the groups seat). -/
namespace Go.Proofs.Ytfkcpcdndleboaa
theorem firstE_congr {f g : Nat → Int} : ∀ {n : Nat}, (∀ k, k < n → f k = g k) → firstE f n = firstE g n
  | 0, _ => rfl
  | n + 1, h => by rw [firstE, firstE, firstE_congr fun k hk => h k (by omega), h n (by omega)]
theorem sg_core {ss ss' : List Sg} (h : ss'.map Sg.core = ss.map Sg.core) (i : Nat) : (sg ss' i).core = (sg ss i).core := by
  have e : ∀ l : List Sg, (sg l i).core = (l.map Sg.core).getD i (default : Sg).core := fun l => by
    unfold sg
    rw [List.getD_eq_getElem?_getD, List.getD_eq_getElem?_getD, List.getElem?_map]
    cases l[i]? <;> rfl
  rw [e, e, h]
theorem sgE_core {P : Int} {s t : Sg} (h : s.core = t.core) : sgE P s = sgE P t := by
  obtain ⟨_, h2, h3, _, h5⟩ := core_eq h
  unfold sgE
  rw [h2, h3, h5]
theorem sameC_core {ss ss' : List Sg} (h : ss'.map Sg.core = ss.map Sg.core) (t : ByteArray) : sameC ss' t = sameC ss t := by
  funext j
  unfold sameC
  rw [(core_eq (sg_core h j)).1]
theorem sgnE_core {P : Int} {ss ss' : List Sg} (h : ss'.map Sg.core = ss.map Sg.core) (i : Nat) : sgnE P ss' i = sgnE P ss i := by
  unfold sgnE seenB
  rw [sameC_core h, (core_eq (sg_core h i)).1, sgE_core (sg_core h i)]
theorem listE_core {P : Int} {ss ss' : List Sg} (h : ss'.map Sg.core = ss.map Sg.core) : listE P ss' = listE P ss := by
  unfold listE
  rw [core_len h, firstE_congr fun k _ => sgnE_core h k]
theorem evenOf_core {ss ss' : List Sg} (h : ss'.map Sg.core = ss.map Sg.core) (s : Int) : evenOf ss' s = evenOf ss s := (core_eq (sg_core h s.toNat)).2.2.2.1
theorem ownE_core {ss ss' : List Sg} (h : ss'.map Sg.core = ss.map Sg.core) (l : List Nd) (i : Nat) : ownE ss' l i = ownE ss l i := by
  unfold ownE
  rw [core_len h, evenOf_core h]
theorem chkE_core {P : Int} {ss ss' : List Sg} (h : ss'.map Sg.core = ss.map Sg.core) (l : List Nd) : chkE P ss' l = chkE P ss l := by
  unfold chkE
  rw [listE_core h, firstE_congr fun k _ => ownE_core h l k]
theorem leafSz_core {ss ss' : List Sg} (h : ss'.map Sg.core = ss.map Sg.core) (n : Nd) : leafSz ss' n = leafSz ss n := by
  obtain ⟨_, h2, h3, _⟩ := core_eq (sg_core h n.sign.toNat)
  unfold leafSz
  rw [h2, h3]
theorem szN_core {ss ss' : List Sg} (h : ss'.map Sg.core = ss.map Sg.core) (l : List Nd) (rows : Bool) : szN ss' l rows = szN ss l rows := by
  funext f
  induction f with
  | zero => rfl
  | succ f ih =>
    funext i
    unfold szN
    rw [ih, leafSz_core h, leafSz_core h]
theorem gZ_core {ss ss' : List Sg} (h : ss'.map Sg.core = ss.map Sg.core) (l : List Nd) (rows : Bool) : gZ ss' l rows = gZ ss l rows := by
  funext i
  unfold gZ
  rw [szN_core h]
theorem gS_core {ss ss' : List Sg} (h : ss'.map Sg.core = ss.map Sg.core) (l : List Nd) (rows : Bool) : gS ss' l rows = gS ss l rows := by
  funext i
  unfold gS
  rw [gZ_core h]
theorem gL_core {ss ss' : List Sg} (h : ss'.map Sg.core = ss.map Sg.core) (l : List Nd) (rows : Bool) : gL ss' l rows = gL ss l rows := by
  funext i
  unfold gL gAl
  rw [gZ_core h, gS_core h]
theorem layS_core {ss ss' : List Sg} (h : ss'.map Sg.core = ss.map Sg.core) (l : List Nd) (rows : Bool) (len : Int) : layS ss' l rows len = layS ss l rows len := by
  unfold layS
  rw [gL_core h]
theorem begE_core {P : Int} {ss ss' : List Sg} (h : ss'.map Sg.core = ss.map Sg.core) (l : List Nd) (d wd : Int) : begE P ss' l d wd = begE P ss l d wd := by
  unfold begE
  rw [chkE_core h]
theorem spotsN_core {ss ss' : List Sg} (h : ss'.map Sg.core = ss.map Sg.core) (l : List Nd) (rows : Bool) : spotsN ss' l rows = spotsN ss l rows := by
  funext f
  induction f with
  | zero => rfl
  | succ f ih =>
    funext i x y
    unfold spotsN
    rw [ih, szN_core h]
theorem layBx_core {ss ss' : List Sg} (h : ss'.map Sg.core = ss.map Sg.core) (l : List Nd) (rows : Bool) (way len : Int) : layBx ss' l rows way len = layBx ss l rows way len := by
  have e : grpBx ss' l rows way = grpBx ss l rows way := by
    funext i c
    unfold grpBx gCr
    rw [spotsN_core h, gS_core h, gZ_core h]
  unfold layBx
  rw [e, layS_core h]
theorem layR_core {P : Int} {ss ss' : List Sg} (h : ss'.map Sg.core = ss.map Sg.core) (l : List Nd) (d wd : Int) : layR P ss' l d wd = layR P ss l d wd := by
  unfold layR
  rw [begE_core h, layBx_core h]
end Go.Proofs.Ytfkcpcdndleboaa

/- The copies that a law hands to the program. -/
namespace Go.Proofs.Ytfkcpcdndleboaa
open Go.RowKit
/-- A copy of a list and a copy of a text. -/
structure Copies (ss : List Sg) (l : List Nd) (ss' : List Sg) (A3 A4 : Option Addr) (c3 c4 : Nat) (W : World) : Prop where
  sg : Sgs W W.heap.size A3 ss'
  core : ss'.map Sg.core = ss.map Sg.core
  cap : ∀ s ∈ ss', s.vals.length ≤ s.vc
  nd : Nds W W.heap.size A4 l
  room : l.length ≤ c4
theorem Copies.len {ss : List Sg} {l : List Nd} {ss' : List Sg} {A3 A4 : Option Addr} {c3 c4 : Nat} {W : World} (h : Copies ss l ss' A3 A4 c3 c4 W) : ss'.length = ss.length := core_len h.core
theorem Copies.vals {ss : List Sg} {l : List Nd} {ss' : List Sg} {A3 A4 : Option Addr} {c3 c4 : Nat} {W : World} (h : Copies ss l ss' A3 A4 c3 c4 W) (hv : ∀ s ∈ ss, s.vals.length ≤ 20) : ∀ s ∈ ss', s.vals.length ≤ 1000000 ∧ s.vals.length ≤ s.vc :=
  fun s hs => ⟨Nat.le_trans (vals_core h.core hv s hs) (by decide), h.cap s hs⟩
end Go.Proofs.Ytfkcpcdndleboaa

/- The copies that a law hands to the program (turned from the groups seat). -/
namespace Go.Proofs.Ytfkcpcdndleboaa
open Go.RowKit
theorem LCopy.sgs {ss ss' : List Sg} {B : Nat} {A' : Option Addr} {c' : Nat} {w' : World} (h : LCopy ss ss' B A' c' w') : Sgs w' w'.heap.size A' ss' := ⟨Reads.of_own h.own, fun s hs => Reads.of_own (h.vals s hs)⟩
theorem Copies.mk' {ss : List Sg} {l : List Nd} {ss' : List Sg} {A3 A4 : Option Addr} {c3 c4 B B' : Nat} {W0 W : World} (h : LCopy ss ss' B A3 c3 W0) (hb : Below W0.heap.size W0 W) (ho : W.ownsRow B' 49 8 (.slice A4 l.length c4) l.length (flatN l)) : Copies ss l ss' A3 A4 c3 c4 W :=
  ⟨(h.below hb).sgs, h.core, h.cap, Reads.of_own ho, own_cap' ho⟩
theorem small_of {ss : List Sg} {l : List Nd} (h : ¬ BigP ss l) : ss.length ≤ 30 ∧ l.length ≤ 210 ∧ ∀ s ∈ ss, s.vals.length ≤ 20 := by
  unfold BigP LargeL BigL at h
  simp only [not_or] at h
  refine ⟨by omega, by omega, fun s hs => ?_⟩
  have h2 : ¬ bigS s := fun h2 => h.1.1.2 ⟨s, hs, h2⟩
  unfold bigS at h2
  omega
/-- list(p) and text(p), asked anywhere behind a world w1. -/
theorem list_at {P : Int} {ss : List Sg} {A : Option Addr} {c : Nat} {V : Value} {w w1 : World} (hl : ss.length ≤ 30) (hv : ∀ s ∈ ss, s.vals.length ≤ 20) (hw : Below w.heap.size w w1) (r : Sgs w w.heap.size A ss) (W : World) (h : Below w1.heap.size w1 W) :
    Calls Try.prog 14 #[.agg #[.int .i64 P, .slice A ss.length c, V]] W fun e w' => ∃ A' c' ss', e = .returned (.agg #[.int .i64 P, .slice A' ss'.length c']) ∧ LCopy ss ss' W.heap.size A' c' w' ∧ Below W.heap.size W w' :=
  list_any P ss A c V (by omega) (fun s hs => by have := hv s hs; omega) W ((r.below (hw.trans (h.mono hw.size))).more (Nat.le_trans hw.size h.size))
theorem text_at {P : Int} {A A2 : Option Addr} {N c : Nat} {l : List Nd} {c2 : Nat} {w w1 : World} (hl : l.length ≤ 210) (hw : Below w.heap.size w w1) (r : Nds w w.heap.size A2 l) (W : World) (h : Below w1.heap.size w1 W) :
    Calls Try.prog 12 #[.agg #[.int .i64 P, .slice A N c, .slice A2 l.length c2]] W fun e w' => ∃ A' c', e = .returned (.agg #[.slice A' l.length c']) ∧ w'.ownsRow W.heap.size 49 8 (.slice A' l.length c') l.length (flatN l) ∧ Below W.heap.size W w' :=
  text_any P A A2 N c l c2 (by omega) W ((r.below (hw.trans (h.mono hw.size))).more (Nat.le_trans hw.size h.size))
/-- What is read stays as it is behind a call. -/
theorem rdn {w w' : World} {size n : Nat} {A : Option Addr} {xs : List Value} (h : Reads w w.heap.size size A n xs) (hb : Below w.heap.size w w') : Reads w' w'.heap.size size A n xs := (Reads.below h hb).more hb.size
theorem rdn_d {w w' : World} {size n : Nat} {A : Option Addr} {xs : List Value} (h : Reads w w.heap.size size A n xs) (hb : Below w.drew.heap.size w.drew w') : Reads w' w'.heap.size size A n xs := rdn (w := w.drew) h hb
theorem bnext {w1 w w' : World} (h : Below w1.heap.size w1 w) (hb : Below w.heap.size w w') : Below w1.heap.size w1 w' := h.trans (hb.mono h.size)
end Go.Proofs.Ytfkcpcdndleboaa

/- WALK: the document's Check of a page. -/
namespace Go.Proofs.Ytfkcpcdndleboaa
open Go.RowKit
def TxB (W : World) (b : Nat) (v : Value) : Prop := W.heap[b]? = some (.cells #[v] 27 (0, 0))
theorem TxB.cells {W : World} {b : Nat} {v : Value} (h : TxB W b v) : W.cell? ⟨b, 0, none⟩ = some v := by unfold TxB at h; simp [World.cell?, h]
theorem TxB.below {W W' : World} {b : Nat} {v : Value} (h : TxB W b v) (hb : Below W.heap.size W W') : TxB W' b v := (hb.block b (lt_of_block h)).trans h
set_option maxRecDepth 100000 in
set_option maxHeartbeats 2000000 in
theorem pageCheckR_any (d wd : Int) (w : World) :
    Calls Try.prog 19 #[.agg #[.int .i64 d, .int .i64 wd]] w fun e w' => e = .returned (.int .i64 (pageE d wd)) ∧ Below w.heap.size w w' := by
  by_cases h1 : d < 1
  · have HX : Hid (pageE d wd = 40) := hid (if_neg (by omega))
    have e1 : decide (d < 1) = true := decide_eq_true h1
    clear h1
    go_enter Try.func19, Try.ntmps19
    go_wp2_with fail
    go_ret
    exact ⟨by rw [HX.out]; rfl, (Below.refl _ _).alloc (Nat.le_refl _) _⟩
  · have e1 : decide (d < 1) = false := decide_eq_false h1
    by_cases h2 : 4 < d
    · have HX : Hid (pageE d wd = 40) := hid (if_neg (by omega))
      have e2 : decide (4 < d) = true := decide_eq_true h2
      clear h1 h2
      go_enter Try.func19, Try.ntmps19
      go_wp2_with fail
      go_ret
      exact ⟨by rw [HX.out]; rfl, (Below.refl _ _).alloc (Nat.le_refl _) _⟩
    · have e2 : decide (4 < d) = false := decide_eq_false h2
      by_cases h3 : wd < 48
      · have HX : Hid (pageE d wd = 40) := hid (if_neg (by omega))
        have e3 : decide (wd < 48) = true := decide_eq_true h3
        clear h1 h2 h3
        go_enter Try.func19, Try.ntmps19
        go_wp2_with fail
        go_ret
        exact ⟨by rw [HX.out]; rfl, (Below.refl _ _).alloc (Nat.le_refl _) _⟩
      · have e3 : decide (wd < 48) = false := decide_eq_false h3
        by_cases h4 : 4800 < wd
        · have HX : Hid (pageE d wd = 40) := hid (if_neg (by omega))
          have e4 : decide (4800 < wd) = true := decide_eq_true h4
          clear h1 h2 h3 h4
          go_enter Try.func19, Try.ntmps19
          go_wp2_with fail
          go_ret
          exact ⟨by rw [HX.out]; rfl, (Below.refl _ _).alloc (Nat.le_refl _) _⟩
        · have HX : Hid (pageE d wd = 0) := hid (if_pos (by omega))
          have e4 : decide (4800 < wd) = false := decide_eq_false h4
          clear h1 h2 h3 h4
          go_enter Try.func19, Try.ntmps19
          go_wp2_with fail
          go_ret
          exact ⟨by rw [HX.out]; rfl, (Below.refl _ _).alloc (Nat.le_refl _) _⟩
end Go.Proofs.Ytfkcpcdndleboaa
