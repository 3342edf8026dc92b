/- WALK: the library's rows: the closure that calls itself and yields. -/
import Derived.Test.YtoljnbbhoeloeaaRangeC
import Derived.Stop.RegionWithIn
import Derived.Sort.QuietIn
import Derived.Test.YtoljnbbhoeloeaaRowsA
namespace Go.Proofs.Ytoljnbbhoeloeaa
open Go.RowKit Go.Shelf
attribute [local go_sem] Oper.semAt_some
def caps (B Bb : Nat) : Array Value := #[.pointer (some ⟨B + 1, 0, none⟩), .pointer (some ⟨Bb, 0, none⟩), .pointer (some ⟨B, 0, none⟩), .pointer (some ⟨B + 2, 0, none⟩)]
def lblk (x : Ln) : Option Nat := x.1.map fun a => a.block
/-- What the closure next finds: yield, the row so far, itself, the blocks. -/
structure RM (bs : List Bk) (A : Option Addr) (c n0 Bb B lid : Nat) (l : List Nat) (v : Value) (w : World) : Prop where
  y_ : w.heap[B]? = some (.cells #[.func (.yield lid) #[] #[]] 108 (0, 0))
  r_ : w.heap[B + 1]? = some (.cells #[v] 22 (0, 0))
  n_ : w.heap[B + 2]? = some (.cells #[.func (.func 86) #[] (caps B Bb)] 35 (0, 0))
  b_ : w.heap[Bb]? = some (.cells #[.slice A bs.length c] 68 (0, 0))
  own : w.ownsRow (B + 3) 3 1 v l.length (ints (nz l))
  bks : Bks w n0 A bs
  sz : B + 3 ≤ w.heap.size
def Sep (pre : List Ln) (v : Value) (w : World) : Prop := ∀ x ∈ pre, ∀ k, lblk x = some k → v.ownBlock ≠ some k ∧ k < w.heap.size
theorem Sep.mono {pre : List Ln} {v : Value} {w w' : World} (h : Sep pre v w) (hs : w.heap.size ≤ w'.heap.size) : Sep pre v w' := fun x hx k hk => ⟨(h x hx k hk).1, Nat.lt_of_lt_of_le (h x hx k hk).2 hs⟩
theorem Sep.app {pre : List Ln} {v v' : Value} {w : World} (h : Sep pre v w) (hf : ∀ k, v'.ownBlock = some k → v.ownBlock = some k ∨ w.heap.size ≤ k) : Sep pre v' w := fun x hx k hk => by
  obtain ⟨h1, h2⟩ := h x hx k hk
  refine ⟨fun he => ?_, h2⟩
  rcases hf k he with h3 | h3
  · exact h1 h3
  · omega
theorem grown_of_below {w w' : World} (h : Below w.heap.size w w') : w.grownBy w' none := ⟨h.os, h.tape, h.output, h.size, fun k hk _ => h.block k hk⟩
theorem RM.below {bs : List Bk} {A : Option Addr} {c n0 Bb B lid : Nat} {l : List Nat} {v : Value} {w w' : World} (h : RM bs A c n0 Bb B lid l v w) (hb : Below w.heap.size w w') (hn : n0 ≤ w.heap.size) (hBb : Bb < B) : RM bs A c n0 Bb B lid l v w' :=
  have hs := h.sz
  ⟨(hb.block _ (by omega)).trans h.y_, (hb.block _ (by omega)).trans h.r_, (hb.block _ (by omega)).trans h.n_, (hb.block _ (by omega)).trans h.b_, own_keep h.own hb, h.bks.below (hb.mono hn), Nat.le_trans hs hb.size⟩
theorem RM.kept {bs : List Bk} {A : Option Addr} {c n0 Bb B lid : Nat} {l : List Nat} {v : Value} {w w' : World} (h : RM bs A c n0 Bb B lid l v w) (hk : KeptC n0 Bb B w w') : RM bs A c n0 Bb B lid l v w' := by
  have hs := h.sz
  refine ⟨hk.own _ _ (.inr ⟨by omega, .inl (by omega)⟩) h.y_, hk.own _ _ (.inr ⟨by omega, .inl (by omega)⟩) h.r_, hk.own _ _ (.inr ⟨by omega, .inl (by omega)⟩) h.n_, hk.own _ _ (.inl rfl) h.b_, ?_, h.bks.below hk.bel, Nat.le_trans hs hk.bel.size⟩
  obtain ⟨h1, h2⟩ := h.own
  refine ⟨h1, ?_⟩
  rcases h2 with h2 | ⟨g, cap, cur, hv, hg, hh, r⟩
  · exact Or.inl h2
  · exact Or.inr ⟨g, cap, cur, hv, hg, hk.own _ _ (.inr ⟨by omega, .inr ⟨cur, (0, 0), rfl⟩⟩) hh, r⟩
theorem sep_new {pre : List Ln} {v : Value} {A4 : Option Addr} {c4 M n m : Nat} {xs ys : List Value} {ls : List Int} {w w4 w5 : World} {B : Nat} (h : Sep pre v w) (ho : w.ownsRow B 3 1 v n xs) (h4 : w4.ownsRow M 3 1 (.slice A4 m c4) m ys) (hM : w.heap.size ≤ M) (h5 : w4.heap.size ≤ w5.heap.size) (h6 : w.heap.size ≤ w5.heap.size) : Sep (pre ++ [(A4, c4, ls)]) v w5 := fun x hx k hk => by
  rcases List.mem_append.1 hx with hx | hx
  · exact h.mono h6 x hx k hk
  · obtain rfl := List.mem_singleton.1 hx
    have h2 : (Value.slice A4 m c4).ownBlock = some k := by
      cases A4 with
      | none => cases hk
      | some a => exact hk
    have h3 := h4.lt k h2
    refine ⟨fun hv => ?_, by omega⟩
    have h1 := (ho.lt k hv).2
    omega
theorem grown_set (w : World) (a : Addr) (v : Value) : w.grownBy (w.setCell a v) (some a.block) := ⟨rfl, rfl, rfl, by simp, fun k _ hne => Below.heap_setCell _ _ _ _ (fun e => hne (by rw [e]))⟩
theorem RM.app {bs : List Bk} {A : Option Addr} {c n0 Bb B lid s : Nat} {l : List Nat} {v v' : Value} {w w' : World} (h : RM bs A c n0 Bb B lid l v w) (hBb : Bb < B) (hn : n0 ≤ B) (hg : w.grownBy w' v.ownBlock)
    (hown : w'.ownsRow (B + 3) 3 1 v' (l.length + 1) (ints (nz l) ++ [.int .i64 s])) : RM bs A c n0 Bb B lid (l ++ [s]) v' (w'.setCell ⟨B + 1, 0, none⟩ v') := by
  have hz := h.sz
  have hne : ∀ k, k < B + 3 → some k ≠ v.ownBlock := fun k hk he => by have := (h.own.lt k he.symm).1; omega
  have hb : ∀ k (o : Obj), k < B + 3 → k ≠ B + 1 → w.heap[k]? = some o → (w'.setCell ⟨B + 1, 0, none⟩ v').heap[k]? = some o := fun k o h1 h2 h3 => by
    rw [Below.heap_setCell _ _ _ _ (by simp; omega), hg.block k (by omega) (hne k h1)]
    exact h3
  refine ⟨hb _ _ (by omega) (by omega) h.y_, ?_, hb _ _ (by omega) (by omega) h.n_, hb _ _ (by omega) (by omega) h.b_, ?_, ?_, by have := hg.size; simp; omega⟩
  · refine one_setCell (v := v) ?_
    rw [hg.block (B + 1) (by omega) (hne _ (by omega))]
    exact h.r_
  · have := ownsRow_setCell_other hown (a := ⟨B + 1, 0, none⟩) (fun he => by have := (hown.lt _ he).1; simp at this) v'
    rw [nz_snoc, ints_append, List.length_append]
    exact this
  · have hbel : Below n0 w w' := below_app (Below.refl n0 w) h.own hg (by omega) (by omega)
    exact h.bks.below (hbel.setCell (show n0 ≤ (⟨B + 1, 0, none⟩ : Addr).block from (by simp; omega)) v')
theorem RM.cut {bs : List Bk} {A : Option Addr} {c n0 Bb B lid g cc i : Nat} {l : List Nat} {w : World} (h : RM bs A c n0 Bb B lid l (.slice (some ⟨g, 0, none⟩) l.length cc) w) (hBb : Bb < B) (hn : n0 ≤ B) (hi : i ≤ l.length) :
    RM bs A c n0 Bb B lid (l.take i) (.slice (some ⟨g, 0, none⟩) i cc) (w.setCell ⟨B + 1, 0, none⟩ (.slice (some ⟨g, 0, none⟩) i cc)) := by
  have hz := h.sz
  have hb : ∀ k (o : Obj), k ≠ B + 1 → w.heap[k]? = some o → (w.setCell ⟨B + 1, 0, none⟩ (.slice (some ⟨g, 0, none⟩) i cc)).heap[k]? = some o := fun k o h2 h3 => by
    rw [Below.heap_setCell _ _ _ _ (by simp; omega)]
    exact h3
  refine ⟨hb _ _ (by omega) h.y_, one_setCell h.r_, hb _ _ (by omega) h.n_, hb _ _ (by omega) h.b_, ?_, h.bks.below ((Below.refl n0 w).setCell (show n0 ≤ (⟨B + 1, 0, none⟩ : Addr).block from (by simp; omega)) _), by simp; omega⟩
  have hown : w.ownsRow (B + 3) 3 1 (.slice (some ⟨g, 0, none⟩) i cc) (l.take i).length (ints (nz (l.take i))) := by
    obtain ⟨h1, h2⟩ := h.own
    have hl : (l.take i).length = i := by rw [List.length_take]; omega
    rw [hl]
    refine ⟨by simp [ints, nz]; omega, ?_⟩
    rcases h2 with ⟨h2, _⟩ | ⟨g', cap, cur, hv, hg, hh, h3, h4, h5, h6⟩
    · cases h2
    · injection hv with e1 e2 e3
      injection e1 with e1
      injection e1 with e1
      subst e1; subst e3
      refine Or.inr ⟨g, cc, cur, rfl, hg, hh, by omega, h4, h5, ?_⟩
      have : cur.toList.take (i * 1) = (cur.toList.take (l.length * 1)).take i := by rw [List.take_take]; congr 1; omega
      rw [this, h6]
      simp [ints, nz, List.map_take]
  refine ownsRow_setCell_other hown (a := ⟨B + 1, 0, none⟩) (fun he => ?_) _
  have := (hown.lt _ he).1
  simp at this
theorem RM.may {bs : List Bk} {A : Option Addr} {c n0 Bb B lid : Nat} {l : List Nat} {v : Value} {w : World} {pre : List Ln} (h : RM bs A c n0 Bb B lid l v w) (hs : Sep pre v w) : ∀ r, v.ownBlock = some r → MayW B lblk pre w r := fun r hr => by
  refine ⟨by have := (h.own.lt r hr).1; omega, .inr ⟨fun x hx hk => (hs x hx r hk).1 hr, ?_⟩⟩
  rcases h.own.2 with ⟨h2, _⟩ | ⟨g, cap, cur, hv, _, hh, _⟩
  · subst h2; cases hr
  · subst hv
    injection hr with hr
    subst hr
    exact ⟨cur, (0, 0), hh⟩
theorem RM.form {bs : List Bk} {A : Option Addr} {c n0 Bb B lid : Nat} {l : List Nat} {v : Value} {w : World} (h : RM bs A c n0 Bb B lid l v w) (hl : 0 < l.length) : ∃ g c, v = .slice (some ⟨g, 0, none⟩) l.length c ∧ l.length ≤ c := by
  rcases h.own.2 with ⟨h2, h3⟩ | ⟨g', cap, cur, hv, _, _, h4, _⟩
  · omega
  · exact ⟨g', cap, hv, h4⟩
theorem sig_app (a b : List Ln) : sig (a ++ b) = sig a ++ sig b := by simp [sig]
theorem prmTo_pre {fit : Nat → Nat → Bool} {N f s : Nat} {l : List Nat} : ∀ d, prmTo fit N f l s <+: prmTo fit N f l (s + d)
  | 0 => List.prefix_refl _
  | d + 1 => by
    refine (prmTo_pre d).trans ?_
    cases h : okNx fit l (s + d) with
    | true => rw [← Nat.add_assoc, prmTo_yes h]; exact List.prefix_append _ _
    | false => rw [← Nat.add_assoc, prmTo_no h]; exact List.prefix_refl _
theorem yes_no {e : Ending} {X Y : Prop} (h : (e = .returned (.bool true) ∧ X) ∨ (e = .returned (.bool false) ∧ Y)) : ∃ b : Bool, e = .returned (.bool b) ∧ ((b = true ∧ X) ∨ (b = false ∧ Y)) := by
  rcases h with ⟨rfl, h⟩ | ⟨rfl, h⟩
  · exact ⟨true, rfl, .inl ⟨rfl, h⟩⟩
  · exact ⟨false, rfl, .inr ⟨rfl, h⟩⟩
/-- A row that is handed out: it is read, and its capacity holds it. -/
def Rc (W : World) (x : Ln) : Prop := Ri W x.1 x.2.2 ∧ x.2.2.length ≤ x.2.1
theorem own_cap {w : World} {B n c : Nat} {e : TypeId} {A : Option Addr} {xs : List Value} (h : w.ownsRow B e 1 (.slice A n c) n xs) : n ≤ c := by
  rcases h.2 with ⟨h2, h3⟩ | ⟨g, cap, cur, hv, _, _, h3, _⟩
  · omega
  · injection hv with _ _ h4
    omega
set_option maxRecDepth 100000 in
set_option maxHeartbeats 4000000 in
theorem rows_in (bs : List Bk) (h0 : blksErr bs = 0) (A : Option Addr) (c n0 Bb B lid NN : Nat) (hn0 : n0 ≤ B) (hBb : Bb < B) (J Jx : List Ln → World → Prop) (hJ : AbidesC B lblk J)
    (hY : ∀ m pre x W1, J pre W1 → pre.length < NN → Rc W1 x → B + 3 ≤ W1.heap.size → YieldAt Fence.wide m Try.prog lid #[x.val] W1 fun e W' => (e = .returned (.bool true) ∧ J (pre ++ [x]) W' ∧ KeptC n0 Bb B W1 W') ∨ (e = .returned (.bool false) ∧ Jx (pre ++ [x]) W')) :
    ∀ (f : Nat) (l : List Nat) (v : Value) (pre : List Ln) (w : World) (n : Nat), l.length + f = bs.length → (∀ x ∈ l, x < bs.length) → RM bs A c n0 Bb B lid l v w → J pre w → Sep pre v w → pre.length + bs.length ^ f ≤ NN →
      CallsIn Fence.wide n Try.prog 86 (caps B Bb) w fun e w' =>
        (e = .returned (.bool true) ∧ ∃ xs v', J (pre ++ xs) w' ∧ sig xs = (prm (fitN bs) bs.length f l).map nz ∧ RM bs A c n0 Bb B lid l v' w' ∧ Sep (pre ++ xs) v' w') ∨
        (e = .returned (.bool false) ∧ ∃ q, sig q <+: (prm (fitN bs) bs.length f l).map nz ∧ Jx (pre ++ q) w') := by
  intro f
  induction f with
  | zero =>
    intro l v pre w n hl hlt hm hj hsep hroom
    have p1 := cell_of_one hm.y_
    have p2 := cell_of_one hm.r_
    have p4 := cell_of_one hm.b_
    have hd : ((l.length : Int) == bs.length) = true := by simp; omega
    have hdd : ∀ k : Nat, (Fence.wide.depth.isSome = true → 1 ≤ k) := fun k h => by cases h
    have hsz := hm.sz
    have HCl := hid (fun W (hb : Below w.heap.size w W) => clone_any l v (B + 3) (by have := (blks_ok h0).1; omega) W (own_keep hm.own hb))
    have HYc := hid (fun (A4 : Option Addr) (c4 : Nat) W w4 (hb : Below w.heap.size w W) (ho : w4.ownsRow W.heap.size 3 1 (.slice A4 l.length c4) l.length (ints (nz l))) (hb4 : Below W.heap.size W w4) (m : Nat) =>
      hY m pre (A4, c4, nz l) w4 (hJ _ _ _ none hj (grown_of_below (hb.trans (hb4.mono hb.size))) (fun r e => by cases e)) (by rw [Nat.pow_zero] at hroom; omega) ⟨ri_own ho, by rw [nz_len]; exact own_cap ho⟩ (by have := hb.size; have := hb4.size; omega))
    simp only [Ln.val, nz_len] at HYc
    have P1 := hid (fun W (hb : Below w.heap.size w W) => (hb.cell (p := ⟨B, 0, none⟩) (by simp; omega)).trans p1)
    obtain ⟨A0, c0, rfl, _, _⟩ := own_at hm.own
    have HM := hid hm; have HSEP := hid hsep
    clear hm hsep hY hJ
    refine callsIn_of_wp Try.func86 rfl trivial ?_ rfl
    simp only [caps, Try.ntmps86, List.size_toArray, List.length_cons, List.length_nil, Nat.reduceAdd, Nat.reduceSub, Array.replicate_succ, Array.replicate_zero, List.push_toArray, List.append_toArray, List.nil_append, List.cons_append]
    gi_wp2
    gi_region_with (first | ((first | refine ⟨trivial, hdd _, ?_⟩ | refine ⟨hdd _, ?_⟩ | skip); gi_at_call 87; refine (callsIn_wide.2 (HCl.out _ (by first | exact Below.refl _ _ | exact (Below.refl _ _).drew | exact below_drewN (Below.refl _ _) _))).mono ?_; rintro e w4 ⟨v4, rfl, hown4, hb4⟩; obtain ⟨A4, c4, rfl, _, _⟩ := own_at hown4; have q1 := P1.out w4 (Below.trans (by first | exact Below.refl _ _ | exact (Below.refl _ _).drew | exact below_drewN (Below.refl _ _) _) hb4); obtain ⟨fn, tmps, assign, body, hy, hR⟩ := HYc.out A4 c4 _ w4 (by first | exact Below.refl _ _ | exact (Below.refl _ _).drew | exact below_drewN (Below.refl _ _) _) hown4 hb4 (n - 1)) | ((first | refine ⟨hdd _, ?_⟩ | refine ⟨trivial, hdd _, ?_⟩ | skip); refine hR.mono ?_; clear hR; rintro e w5 h5; obtain ⟨bb, rfl, h6⟩ := yes_no h5; clear h5))
    all_goals
      have hw4 : Below w.heap.size w w4 := Below.trans (by first | exact Below.refl _ _ | exact (Below.refl _ _).drew | exact below_drewN (Below.refl _ _) _) hb4
      have HB4 := hid hw4
      have HS4 := hid (fun (w5 : World) (h5 : w4.heap.size ≤ w5.heap.size) => sep_new (ls := nz l) HSEP.out HM.out.own hown4 (Nat.le_refl _) h5 (Nat.le_trans hw4.size h5))
      have H6 := hid h6
      clear hw4 hb4 hown4 h6
      gi_wp2
      try go_bits
      go_ret
      rcases H6.out with ⟨rfl, hJ5, hk5⟩ | ⟨rfl, hx5⟩
      · exact .inl ⟨rfl, [(A4, c4, nz l)], _, hJ5, rfl, (HM.out.below HB4.out (Nat.le_trans hn0 (by omega)) hBb).kept hk5, HS4.out _ hk5.bel.size⟩
      · exact .inr ⟨rfl, [(A4, c4, nz l)], List.prefix_refl _, hx5⟩
  | succ f ih =>
    intro l v pre w n hl hlt hm hj hsep hroom
    have hn8 := (blks_ok h0).1
    have hdd : ∀ k : Nat, (Fence.wide.depth.isSome = true → 1 ≤ k) := fun k h => by cases h
    have hsz := hm.sz
    have p2 := cell_of_one hm.r_
    have p4 := cell_of_one hm.b_
    obtain ⟨A0, c0, rfl, _, _⟩ := own_at hm.own
    obtain ⟨N, hN⟩ : ∃ N, N = bs.length := ⟨_, rfl⟩
    rw [← hN] at ih hl hlt hroom hn8 p4 ⊢
    have hd : ((l.length : Int) == N) = false := by simp; omega
    have HN := hid hN; have HM := hid hm; have HSEP := hid hsep; have IH := hid ih; have HRM := hid hroom; have HLT := hid hlt; have H0 := hid h0; have HJ := hid hJ; have Hj := hid hj
    clear hN hm hsep ih hroom hlt h0 hY hJ hj
    refine callsIn_of_wp Try.func86 rfl trivial ?_ rfl
    simp only [caps, Try.ntmps86, List.size_toArray, List.length_cons, List.length_nil, Nat.reduceAdd, Nat.reduceSub, Array.replicate_succ, Array.replicate_zero, List.push_toArray, List.append_toArray, List.nil_append, List.cons_append]
    gi_wp2
    gi_loopw [19] (fun i wr => ∃ (s : Nat) (xs : List Ln) (v' : Value), s ≤ N ∧ i = .int .i64 s ∧ Hid (J (pre ++ xs) wr) ∧ Hid (sig xs = (prmTo (fitN bs) N f l s).map nz) ∧ Hid (RM bs A c n0 Bb B lid l v' wr) ∧ Hid (Sep (pre ++ xs) v' wr)) (fun i _ => N - (intOf i).toNat)
    case atStart => exact ⟨0, [], _, by omega, rfl, by rw [List.append_nil]; exact Hj.out, rfl, HM.out, by rw [List.append_nil]; exact HSEP.out⟩
    case round =>
      obtain ⟨s, xs, v', hs, rfl, hJs, hSg, hRm, hSp⟩ := hrel
      obtain ⟨A1, c1, rfl, _, hat1⟩ := own_at hRm.out.own
      by_cases hsN : s < N
      · have hszr := hRm.out.sz
        have p5 := cell_of_one hRm.out.r_
        obtain ⟨b, o, rfl, hbB, hc⟩ := hRm.out.bks.at (by rw [← HN.out]; omega)
        have hs' : s < bs.length := by rw [← HN.out]; exact hsN
        obtain ⟨a0, a1, a2⟩ := hc s hs'
        rw [← Nat.add_assoc] at a1 a2
        have hel := hRm.out.bks.el _ (List.getElem_mem hs')
        have hlo := (blks_low H0.out (List.getElem_mem hs')).1
        have hlo4 := (blks_low H0.out (List.getElem_mem hs')).2.2.1
        have hfe : ∀ x (hx : x < bs.length), fitN bs x s = fitB bs[x].r.2.2 bs[s].l.2.2 := fun x hx => by unfold fitN bR bL; rw [List.getElem?_eq_getElem hx, List.getElem?_eq_getElem hs']
        have HCB := hid hc
        clear hc
        generalize bs[s] = bj at a0 a1 a2 hel hlo hlo4 hfe
        obtain ⟨⟨Al, cl, ll⟩, ⟨Ar, cr, lr⟩, ra, rc, rows⟩ := bj
        simp only [] at a0 a1 a2 hel hlo hlo4 hfe
        obtain ⟨w2, hw2⟩ : ∃ w2, w2 = wr.alloc (.cells #[.slice Al ll.length cl, .slice Ar lr.length cr, .slice ra rows.length rc] 85) := ⟨_, rfl⟩
        have hb2 : Below wr.heap.size wr w2 := by rw [hw2]; exact (Below.refl _ _).alloc (Nat.le_refl _) _
        have hR2 := hRm.out.below hb2 (Nat.le_trans hn0 (by omega)) hBb
        have HJ2 := hid (HJ.out _ _ _ none hJs.out (grown_of_below hb2) (fun r e => by cases e))
        have f0 : w2.cell? ⟨wr.heap.size, 0, none⟩ = some (.slice Al ll.length cl) := by rw [hw2]; simp [go_sem]
        have p6 := cell_of_one hR2.r_
        have p7 := cell_of_one hR2.b_
        have p8 := cell_of_one hR2.n_
        have z6 := free_of_one hR2.r_
        rw [← HN.out] at p7
        have p6r := p6
        rw [hw2] at p6r
        have hcon := fun q => contains_any (nz l) s A1 c1 (by rw [nz_len]; omega) (w2.drewN q) w2.heap.size ((ri_own hR2.own).rd.below (below_drewN (Below.refl _ _) _))
        rw [nz_len] at hcon
        have hcc : (nz l).contains (s : Int) = l.contains s := by
          rw [Bool.eq_iff_iff, List.contains_iff_mem, List.contains_iff_mem]
          unfold nz
          rw [List.mem_map]
          constructor
          · rintro ⟨y, hy, e⟩
            obtain rfl : y = s := by omega
            exact hy
          · exact fun h => ⟨s, h, rfl⟩
        rw [hcc] at hcon
        have HR2 := hid hR2
        clear hR2 hcc
        cases hls : l.contains s with
        | true =>
          rw [hls] at hcon
          have HCON := hid hcon
          have HNO := hid (show okNx (fitN bs) l s = false by unfold okNx; rw [hls]; simp)
          clear hcon hls
          gi_wp2
          rw [← hw2]
          clear hw2 p6r
          have hfw : ∀ f, Fence.wide.fn f := fun _ => trivial
          have hfd : Fence.wide.depth = none := rfl
          gi_quiet (first | (gi_at_call 73; go_must (exact callsIn_wide.2 ((HCON.out _).mono fun e w' h => ⟨h.1, by obtain ⟨_, n5, hw⟩ := h; exact ⟨_, by rw [hw, World.drewN_drewN]⟩⟩))))
          gi_wp2
          have hbq : Below w2.heap.size w2 (w2.drewN nq) := below_drewN (Below.refl _ _) _
          have hsz2 : n0 ≤ w2.heap.size := by have := hb2.size; omega
          go_roundw
          case rel => exact ⟨s + 1, xs, _, by omega, by go_num, HJ.out _ _ _ none HJ2.out (grown_of_below hbq) (fun r e => by cases e), by rw [prmTo_no HNO.out]; exact hSg.out, HR2.out.below hbq hsz2 hBb, hSp.out.mono (Nat.le_trans hb2.size hbq.size)⟩
          case measure => simp [intOf]; omega
        | false =>
          rw [hls] at hcon
          have HCON := hid hcon
          clear hcon
          by_cases hle : l.length = 0
          · have HYE : Hid (okNx (fitN bs) l s = true) := by unfold okNx; rw [hls, List.eq_nil_of_length_eq_zero hle]; rfl
            have hg0 : decide ((0 : Int) < l.length) = false := decide_eq_false (by omega)
            have hg1 : decide (0 < l.length) = false := decide_eq_false (by omega)
            clear hls hle
            gi_wp2
            rw [← hw2]
            clear hw2 p6r
            have hfw : ∀ f, Fence.wide.fn f := fun _ => trivial
            have hfd : Fence.wide.depth = none := rfl
            gi_quiet (first | (gi_at_call 73; go_must (exact callsIn_wide.2 ((HCON.out _).mono fun e w' h => ⟨h.1, by obtain ⟨_, n5, hw⟩ := h; exact ⟨_, by rw [hw, World.drewN_drewN]⟩⟩))))
            obtain ⟨w5, hw5⟩ : ∃ w5, w5 = w2.drewN nq := ⟨_, rfl⟩
            have hbq : Below w2.heap.size w2 w5 := by rw [hw5]; exact below_drewN (Below.refl _ _) _
            rw [← hw5]
            clear hw5
            have hsz2 : n0 ≤ w2.heap.size := by have := hb2.size; omega
            have hR5 := HR2.out.below hbq hsz2 hBb
            have HJ5 := hid (HJ.out _ _ _ none HJ2.out (grown_of_below hbq) (fun r e => by cases e))
            have HS5 := hid (hSp.out.mono (Nat.le_trans hb2.size hbq.size))
            have q6 := cell_of_one hR5.r_
            have hba : Below w5.heap.size w5 (w5.alloc (.cells #[.int .i64 s] 3)) := (Below.refl _ _).alloc (Nat.le_refl _) _
            have hsz5 : B + 3 ≤ w5.heap.size := hR5.sz
            have hRa := hR5.below hba (by omega) hBb
            have HJa := hid (HJ.out _ _ _ none HJ5.out (grown_of_below hba) (fun r e => by cases e))
            have HSa := hid (HS5.out.mono hba.size)
            have HRa := hid hRa
            have hownA := hRa.own
            clear hRa hR5
            have HRM2 : Hid ((pre ++ xs).length + N ^ f ≤ NN) := by
              show (pre ++ xs).length + N ^ f ≤ NN
              have h1 := congrArg List.length hSg.out
              simp only [sig, List.length_map] at h1
              have h2 := prmTo_len (fit := fitN bs) (N := N) (f := f) (s := s) (l := l)
              have h3 : (s + 1) * N ^ f ≤ N * N ^ f := Nat.mul_le_mul_right _ hsN
              have h4 := HRM.out
              rw [Nat.add_mul, Nat.one_mul] at h3
              rw [Nat.pow_succ, Nat.mul_comm] at h4
              rw [List.length_append]
              omega
            have HLT2 : Hid (∀ x ∈ l ++ [s], x < N) := fun x hx => by
              rcases List.mem_append.1 hx with hx | hx
              · exact HLT.out x hx
              · rw [List.mem_singleton.1 hx]; exact hsN
            have HYS : Hid (prmTo (fitN bs) N f l (s + 1) = prmTo (fitN bs) N f l s ++ prm (fitN bs) N f (l ++ [s])) := prmTo_yes HYE.out
            have HSB := hid (fun (w6 : World) (h2 : (w5.alloc (.cells #[.int .i64 s] 3)).grownBy w6 (Value.slice A1 l.length c1).ownBlock) => show ∃ (cs : Array Value) (fz : Nat × Nat), w6.heap[B + 1]? = some (Obj.cells cs 22 fz) from
              ⟨_, _, (h2.block (B + 1) (by have := HRa.out.sz; omega) (fun he => by have := (HRa.out.own.lt _ he.symm).1; omega)).trans HRa.out.r_⟩)
            have HSTEP := hid (fun (v6 : Value) (w6 : World) (h1 : w6.ownsRow (B + 3) 3 1 v6 (l.length + 1) (ints (nz l) ++ [.int .i64 s])) (h2 : (w5.alloc (.cells #[.int .i64 s] 3)).grownBy w6 (Value.slice A1 l.length c1).ownBlock) (h3 : ∀ k, v6.ownBlock = some k → (Value.slice A1 l.length c1).ownBlock = some k ∨ (w5.alloc (.cells #[.int .i64 s] 3)).heap.size ≤ k) =>
              show RM bs (some ⟨b, o, none⟩) c n0 Bb B lid (l ++ [s]) v6 (w6.setCell ⟨B + 1, 0, none⟩ v6) ∧ J (pre ++ xs) (w6.setCell ⟨B + 1, 0, none⟩ v6) ∧ Sep (pre ++ xs) v6 (w6.setCell ⟨B + 1, 0, none⟩ v6) from
                ⟨RM.app HRa.out hBb hn0 h2 h1, HJ.out _ _ _ (some (B + 1)) (HJ.out _ _ _ _ HJa.out h2 (fun r e => HRa.out.may HSa.out r e)) (grown_set w6 ⟨B + 1, 0, none⟩ v6) (fun r e => by
      cases e
      exact ⟨by omega, .inl ⟨rfl, HSB.out w6 h2⟩⟩), ((HSa.out.app h3).mono h2.size).mono (by simp)⟩)
            have HCELL := hid (fun (w6 : World) (h2 : (w5.alloc (.cells #[.int .i64 s] 3)).grownBy w6 (Value.slice A1 l.length c1).ownBlock) => show w6.cell? ⟨B + 1, 0, none⟩ = some (.slice A1 l.length c1) ∧ w6.frozen? ⟨B + 1, 0, none⟩ = false ∧ w6.cell? ⟨B + 2, 0, none⟩ = some (.func (.func 86) #[] (caps B Bb)) from
              have hh : ∀ k, k < B + 3 → w6.heap[k]? = (w5.alloc (.cells #[.int .i64 s] 3)).heap[k]? := fun k hk => h2.block k (by have := HRa.out.sz; omega) (fun he => by have := (HRa.out.own.lt _ he.symm).1; omega)
              ⟨cell_of_one ((hh _ (by omega)).trans HRa.out.r_), free_of_one ((hh _ (by omega)).trans HRa.out.r_), cell_of_one ((hh _ (by omega)).trans HRa.out.n_)⟩)
            have hlm1 : (l ++ [s]).length = l.length + 1 := by simp
            gi_wp2_with (first | (gi_at_builtin; refine app_in rfl (.tmp 48) (.tmp 50) Try.underlying22 Try.infoInt rfl (by decide) rfl (B + 3) _ _ _ rfl hownA ⟨w5.heap.size, 0, none⟩ (.int .i64 s) rfl (cell_new1 _ _ _) rfl (by omega) (by simp; omega) ?_; intro v6 w6 hown6 hgrow6 hfr6; obtain ⟨g6, c6, rfl, hg6, hgl6⟩ := hown6.form (by omega); obtain ⟨t1, t2, t3⟩ := HCELL.out w6 hgrow6; have HST := hid (HSTEP.out _ w6 hown6 hgrow6 hfr6)) | ((first | refine ⟨trivial, hdd _, ?_⟩ | refine ⟨hdd _, ?_⟩ | skip); gi_at_call 86; refine (IH.out (l ++ [s]) _ (pre ++ xs) _ (n - 1) (by simp; omega) HLT2.out HST.out.1 HST.out.2.1 HST.out.2.2 HRM2.out).mono ?_; rintro e w7 h7; rcases h7 with ⟨rfl, xs7, v7, hJ7, hSg7, hR7, hS7⟩ | ⟨rfl, q7, hq7, hx7⟩; focus (obtain ⟨g7, c7, rfl, hc7⟩ := hR7.form (by simp); have u1 := cell_of_one hR7.r_; have u2 := free_of_one hR7.r_; rw [hlm1] at u1 hc7; have hc8 : l.length ≤ c7 := (by omega))))
            · have HF7 : Hid (J (pre ++ (xs ++ xs7)) (w7.setCell ⟨B + 1, 0, none⟩ (.slice (some ⟨g7, 0, none⟩) l.length c7)) ∧ sig (xs ++ xs7) = (prmTo (fitN bs) N f l (s + 1)).map nz ∧
                  RM bs (some ⟨b, o, none⟩) c n0 Bb B lid l (.slice (some ⟨g7, 0, none⟩) l.length c7) (w7.setCell ⟨B + 1, 0, none⟩ (.slice (some ⟨g7, 0, none⟩) l.length c7)) ∧ Sep (pre ++ (xs ++ xs7)) (.slice (some ⟨g7, 0, none⟩) l.length c7) (w7.setCell ⟨B + 1, 0, none⟩ (.slice (some ⟨g7, 0, none⟩) l.length c7))) := by
                refine ⟨?_, ?_, ?_, ?_⟩
                · rw [← List.append_assoc]
                  exact HJ.out _ _ _ (some (B + 1)) hJ7 (grown_set w7 ⟨B + 1, 0, none⟩ _) (fun r e => by
                    cases e
                    exact ⟨by omega, .inl ⟨rfl, _, _, hR7.r_⟩⟩)
                · rw [sig_app, hSg.out, hSg7, HYS.out, List.map_append]
                · have := hR7.cut (i := l.length) hBb hn0 (by simp)
                  rwa [List.take_left] at this
                · rw [← List.append_assoc]
                  exact Sep.mono (w := w7) (fun x hx k hk => hS7 x hx k hk) (by simp)
              clear hJ7 hSg7 hR7 hS7
              go_roundw
              case rel => exact ⟨s + 1, xs ++ xs7, _, by omega, by go_num, HF7.out.1, HF7.out.2.1, HF7.out.2.2.1, HF7.out.2.2.2⟩
              case measure => simp [intOf]; omega
            · go_ret
              refine .inr ⟨rfl, xs ++ q7, ?_, by rw [← List.append_assoc]; exact hx7⟩
              rw [sig_app, hSg.out]
              refine ((List.prefix_append_right_inj _).2 hq7).trans ?_
              rw [← List.map_append, ← HYS.out]
              obtain ⟨dd, hdd2⟩ : ∃ dd, N = s + 1 + dd := ⟨N - (s + 1), by omega⟩
              have hpp := prmTo_pre (fit := fitN bs) (N := N) (f := f) (s := s + 1) (l := l) dd
              rw [← hdd2, prmTo_all] at hpp
              exact hpp.map nz
          · have hg0 : decide ((0 : Int) < l.length) = true := decide_eq_true (by omega)
            have hg1 : decide (0 < l.length) = true := decide_eq_true (by omega)
            obtain ⟨A3, c3, hv3, _, hat3⟩ := own_at HR2.out.own
            injection hv3 with e1 _ e3
            subst e1; subst e3
            have hlp : 0 < l.length := Nat.pos_of_ne_zero hle
            obtain ⟨g, rfl, hgl, hcs⟩ := hat3 hlp
            clear hat1 hat3
            have p1 := hcs (l.length - 1) (by omega)
            have hxN : lastN l < N := HLT.out _ (by unfold lastN; simp [List.getD, List.getElem?_eq_getElem (show l.length - 1 < l.length by omega)])
            have hxl : l.getD (l.length - 1) 0 = lastN l := rfl
            rw [hxl] at p1
            obtain ⟨x, hx⟩ : ∃ x, x = lastN l := ⟨_, rfl⟩
            rw [← hx] at p1 hxN
            have hx' : x < bs.length := by rw [← HN.out]; exact hxN
            have k1 := (HCB.out x hx').2.1
            rw [← Nat.add_assoc] at k1
            have k2 := (hRm.out.bks.el _ (List.getElem_mem hx')).2.1
            have k3 := (blks_low H0.out (List.getElem_mem hx')).2.1
            have hfx := hfe x hx'
            generalize bs[x] = bi at k1 k2 k3 hfx
            obtain ⟨⟨Al1, cl1, ll1⟩, ⟨Ar1, cr1, lr1⟩, ra1, rc1, rows1⟩ := bi
            simp only [] at k1 k2 k3 hfx
            have hbw : b < wr.heap.size := by omega
            have c1' := (hb2.cell (p := ⟨b, o + x * 3 + 1, none⟩) (by simp; omega)).trans k1
            have hn2 : n0 ≤ wr.heap.size := by omega
            have HFT := hid (fun q => fits_any lr1 ll Ar1 Al cr1 cl k3 hlo (by omega) (w2.drewN q) n0 ((k2.below (hb2.mono hn2)).below (below_drewN (Below.refl _ _) _)) ((hel.1.below (hb2.mono hn2)).below (below_drewN (Below.refl _ _) _)))
            rw [← hfx] at HFT
            obtain ⟨p, hp⟩ : ∃ p, p = fitN bs x s := ⟨_, rfl⟩
            rw [← hp] at HFT
            have hok : okNx (fitN bs) l s = p := by
              have he : l.isEmpty = false := by
                cases l with
                | nil => simp at hle
                | cons _ _ => rfl
              unfold okNx
              rw [he, hls, ← hx, hp]
              simp
            have HOK := hid hok
            have hlm : (l.length : Int) - 1 = ((l.length - 1 : Nat) : Int) := by omega
            obtain ⟨l1m, hl1m⟩ : ∃ l1m, l1m = l.length - 1 := ⟨_, rfl⟩
            rw [← hl1m] at hlm p1
            have q1 : IntKind.i64.wrap ((l.length : Int) - 1) = (l.length : Int) - 1 := IntWalk.i64_in _ (by omega)
            have q2 : (0 : Int) ≤ (l.length : Int) - 1 := by omega
            have q3 : (l.length : Int) - 1 < (l.length : Int) := by omega
            have q8 : ((l.length : Int) - 1).toNat = l1m := by omega
            have q4 : (0 : Int) ≤ (x : Int) := by omega
            have q5 : (x : Int) < (N : Int) := by omega
            generalize lr1.length = n2 at c1' HFT
            clear hp hok hl1m hlm hx hfx k1 k2 k3 hcs hxl hx' hls
            gi_wp2
            rw [← hw2]
            clear hw2 p6r
            have hfw : ∀ f, Fence.wide.fn f := fun _ => trivial
            have hfd : Fence.wide.depth = none := rfl
            gi_quiet (first | (gi_at_call 73; go_must (exact callsIn_wide.2 ((HCON.out _).mono fun e w' h => ⟨h.1, by obtain ⟨_, n5, hw⟩ := h; exact ⟨_, by rw [hw, World.drewN_drewN]⟩⟩))) | (gi_at_call 67; go_must (exact callsIn_wide.2 ((HFT.out _).mono fun e w' h => ⟨h.1, by obtain ⟨_, n5, hw⟩ := h; exact ⟨_, by rw [hw, World.drewN_drewN]⟩⟩))))
            clear p1 c1' q1 q2 q3 q4 q5 q8
            cases p with
            | false =>
              have HNO := HOK
              gi_wp2
              have hbq : Below w2.heap.size w2 (w2.drewN nq) := below_drewN (Below.refl _ _) _
              have hsz2 : n0 ≤ w2.heap.size := by have := hb2.size; omega
              go_roundw
              case rel => exact ⟨s + 1, xs, _, by omega, by go_num, HJ.out _ _ _ none HJ2.out (grown_of_below hbq) (fun r e => by cases e), by rw [prmTo_no HNO.out]; exact hSg.out, HR2.out.below hbq hsz2 hBb, hSp.out.mono (Nat.le_trans hb2.size hbq.size)⟩
              case measure => simp [intOf]; omega
            | true =>
              have HYE := HOK
              obtain ⟨w5, hw5⟩ : ∃ w5, w5 = w2.drewN nq := ⟨_, rfl⟩
              have hbq : Below w2.heap.size w2 w5 := by rw [hw5]; exact below_drewN (Below.refl _ _) _
              rw [← hw5]
              clear hw5
              have hsz2 : n0 ≤ w2.heap.size := by have := hb2.size; omega
              have hR5 := HR2.out.below hbq hsz2 hBb
              have HJ5 := hid (HJ.out _ _ _ none HJ2.out (grown_of_below hbq) (fun r e => by cases e))
              have HS5 := hid (hSp.out.mono (Nat.le_trans hb2.size hbq.size))
              have q6 := cell_of_one hR5.r_
              have hba : Below w5.heap.size w5 (w5.alloc (.cells #[.int .i64 s] 3)) := (Below.refl _ _).alloc (Nat.le_refl _) _
              have hsz5 : B + 3 ≤ w5.heap.size := hR5.sz
              have hRa := hR5.below hba (by omega) hBb
              have HJa := hid (HJ.out _ _ _ none HJ5.out (grown_of_below hba) (fun r e => by cases e))
              have HSa := hid (HS5.out.mono hba.size)
              have HRa := hid hRa
              have hownA := hRa.own
              clear hRa hR5
              have HRM2 : Hid ((pre ++ xs).length + N ^ f ≤ NN) := by
                show (pre ++ xs).length + N ^ f ≤ NN
                have h1 := congrArg List.length hSg.out
                simp only [sig, List.length_map] at h1
                have h2 := prmTo_len (fit := fitN bs) (N := N) (f := f) (s := s) (l := l)
                have h3 : (s + 1) * N ^ f ≤ N * N ^ f := Nat.mul_le_mul_right _ hsN
                have h4 := HRM.out
                rw [Nat.add_mul, Nat.one_mul] at h3
                rw [Nat.pow_succ, Nat.mul_comm] at h4
                rw [List.length_append]
                omega
              have HLT2 : Hid (∀ x ∈ l ++ [s], x < N) := fun x hx => by
                rcases List.mem_append.1 hx with hx | hx
                · exact HLT.out x hx
                · rw [List.mem_singleton.1 hx]; exact hsN
              have HYS : Hid (prmTo (fitN bs) N f l (s + 1) = prmTo (fitN bs) N f l s ++ prm (fitN bs) N f (l ++ [s])) := prmTo_yes HYE.out
              have HSB := hid (fun (w6 : World) (h2 : (w5.alloc (.cells #[.int .i64 s] 3)).grownBy w6 (Value.slice (some ⟨g, 0, none⟩) l.length c1).ownBlock) => show ∃ (cs : Array Value) (fz : Nat × Nat), w6.heap[B + 1]? = some (Obj.cells cs 22 fz) from
                ⟨_, _, (h2.block (B + 1) (by have := HRa.out.sz; omega) (fun he => by have := (HRa.out.own.lt _ he.symm).1; omega)).trans HRa.out.r_⟩)
              have HSTEP := hid (fun (v6 : Value) (w6 : World) (h1 : w6.ownsRow (B + 3) 3 1 v6 (l.length + 1) (ints (nz l) ++ [.int .i64 s])) (h2 : (w5.alloc (.cells #[.int .i64 s] 3)).grownBy w6 (Value.slice (some ⟨g, 0, none⟩) l.length c1).ownBlock) (h3 : ∀ k, v6.ownBlock = some k → (Value.slice (some ⟨g, 0, none⟩) l.length c1).ownBlock = some k ∨ (w5.alloc (.cells #[.int .i64 s] 3)).heap.size ≤ k) =>
                show RM bs (some ⟨b, o, none⟩) c n0 Bb B lid (l ++ [s]) v6 (w6.setCell ⟨B + 1, 0, none⟩ v6) ∧ J (pre ++ xs) (w6.setCell ⟨B + 1, 0, none⟩ v6) ∧ Sep (pre ++ xs) v6 (w6.setCell ⟨B + 1, 0, none⟩ v6) from
                  ⟨RM.app HRa.out hBb hn0 h2 h1, HJ.out _ _ _ (some (B + 1)) (HJ.out _ _ _ _ HJa.out h2 (fun r e => HRa.out.may HSa.out r e)) (grown_set w6 ⟨B + 1, 0, none⟩ v6) (fun r e => by
        cases e
        exact ⟨by omega, .inl ⟨rfl, HSB.out w6 h2⟩⟩), ((HSa.out.app h3).mono h2.size).mono (by simp)⟩)
              have HCELL := hid (fun (w6 : World) (h2 : (w5.alloc (.cells #[.int .i64 s] 3)).grownBy w6 (Value.slice (some ⟨g, 0, none⟩) l.length c1).ownBlock) => show w6.cell? ⟨B + 1, 0, none⟩ = some (.slice (some ⟨g, 0, none⟩) l.length c1) ∧ w6.frozen? ⟨B + 1, 0, none⟩ = false ∧ w6.cell? ⟨B + 2, 0, none⟩ = some (.func (.func 86) #[] (caps B Bb)) from
                have hh : ∀ k, k < B + 3 → w6.heap[k]? = (w5.alloc (.cells #[.int .i64 s] 3)).heap[k]? := fun k hk => h2.block k (by have := HRa.out.sz; omega) (fun he => by have := (HRa.out.own.lt _ he.symm).1; omega)
                ⟨cell_of_one ((hh _ (by omega)).trans HRa.out.r_), free_of_one ((hh _ (by omega)).trans HRa.out.r_), cell_of_one ((hh _ (by omega)).trans HRa.out.n_)⟩)
              have hlm1 : (l ++ [s]).length = l.length + 1 := by simp
              gi_wp2_with (first | (gi_at_builtin; refine app_in rfl (.tmp 48) (.tmp 50) Try.underlying22 Try.infoInt rfl (by decide) rfl (B + 3) _ _ _ rfl hownA ⟨w5.heap.size, 0, none⟩ (.int .i64 s) rfl (cell_new1 _ _ _) rfl (by omega) (by simp; omega) ?_; intro v6 w6 hown6 hgrow6 hfr6; obtain ⟨g6, c6, rfl, hg6, hgl6⟩ := hown6.form (by omega); obtain ⟨t1, t2, t3⟩ := HCELL.out w6 hgrow6; have HST := hid (HSTEP.out _ w6 hown6 hgrow6 hfr6)) | ((first | refine ⟨trivial, hdd _, ?_⟩ | refine ⟨hdd _, ?_⟩ | skip); gi_at_call 86; refine (IH.out (l ++ [s]) _ (pre ++ xs) _ (n - 1) (by simp; omega) HLT2.out HST.out.1 HST.out.2.1 HST.out.2.2 HRM2.out).mono ?_; rintro e w7 h7; rcases h7 with ⟨rfl, xs7, v7, hJ7, hSg7, hR7, hS7⟩ | ⟨rfl, q7, hq7, hx7⟩; focus (obtain ⟨g7, c7, rfl, hc7⟩ := hR7.form (by simp); have u1 := cell_of_one hR7.r_; have u2 := free_of_one hR7.r_; rw [hlm1] at u1 hc7; have hc8 : l.length ≤ c7 := (by omega))))
              · have HF7 : Hid (J (pre ++ (xs ++ xs7)) (w7.setCell ⟨B + 1, 0, none⟩ (.slice (some ⟨g7, 0, none⟩) l.length c7)) ∧ sig (xs ++ xs7) = (prmTo (fitN bs) N f l (s + 1)).map nz ∧
                    RM bs (some ⟨b, o, none⟩) c n0 Bb B lid l (.slice (some ⟨g7, 0, none⟩) l.length c7) (w7.setCell ⟨B + 1, 0, none⟩ (.slice (some ⟨g7, 0, none⟩) l.length c7)) ∧ Sep (pre ++ (xs ++ xs7)) (.slice (some ⟨g7, 0, none⟩) l.length c7) (w7.setCell ⟨B + 1, 0, none⟩ (.slice (some ⟨g7, 0, none⟩) l.length c7))) := by
                  refine ⟨?_, ?_, ?_, ?_⟩
                  · rw [← List.append_assoc]
                    exact HJ.out _ _ _ (some (B + 1)) hJ7 (grown_set w7 ⟨B + 1, 0, none⟩ _) (fun r e => by
                      cases e
                      exact ⟨by omega, .inl ⟨rfl, _, _, hR7.r_⟩⟩)
                  · rw [sig_app, hSg.out, hSg7, HYS.out, List.map_append]
                  · have := hR7.cut (i := l.length) hBb hn0 (by simp)
                    rwa [List.take_left] at this
                  · rw [← List.append_assoc]
                    exact Sep.mono (w := w7) (fun x hx k hk => hS7 x hx k hk) (by simp)
                clear hJ7 hSg7 hR7 hS7
                go_roundw
                case rel => exact ⟨s + 1, xs ++ xs7, _, by omega, by go_num, HF7.out.1, HF7.out.2.1, HF7.out.2.2.1, HF7.out.2.2.2⟩
                case measure => simp [intOf]; omega
              · go_ret
                refine .inr ⟨rfl, xs ++ q7, ?_, by rw [← List.append_assoc]; exact hx7⟩
                rw [sig_app, hSg.out]
                refine ((List.prefix_append_right_inj _).2 hq7).trans ?_
                rw [← List.map_append, ← HYS.out]
                obtain ⟨dd, hdd2⟩ : ∃ dd, N = s + 1 + dd := ⟨N - (s + 1), by omega⟩
                have hpp := prmTo_pre (fit := fitN bs) (N := N) (f := f) (s := s + 1) (l := l) dd
                rw [← hdd2, prmTo_all] at hpp
                exact hpp.map nz
      · obtain rfl : N = s := by omega
        gi_wp2
        go_ret
        exact .inl ⟨rfl, xs, _, hJs.out, hSg.out, hRm.out, hSp.out⟩
end Go.Proofs.Ytoljnbbhoeloeaa

/- WALK: the library's rows: the iterator, and its maker. -/
namespace Go.Proofs.Ytoljnbbhoeloeaa
open Go.RowKit Go.Shelf
attribute [local go_sem] Oper.semAt_some
theorem round_any {F : Fence} (hd : F.depth = none) {m m' : Nat} {P : Program} {l : Nat} {f : FuncId} {tmps : Array Value} {assign body : Code} {w : World} {R : Ending → World → Prop}
    (h : RoundIn F m P l f tmps assign body w R) : RoundIn F m' P l f tmps assign body w R := ⟨h.1, fun c cs _ => h.2 c cs (fun d h => by rw [hd] at h; cases h)⟩
theorem yield_any {F : Fence} (hd : F.depth = none) {m : Nat} (m' : Nat) {P : Program} {l : Nat} {args : Array Value} {W : World} {R : Ending → World → Prop} (h : YieldAt F m P l args W R) : YieldAt F m' P l args W R := by
  obtain ⟨fn, tmps, assign, body, hy, hR⟩ := h
  exact ⟨fn, tmps, assign, body, hy, round_any hd hR⟩
/-- The world in which the iterator calls its closure. -/
def rw5 (lid Bb : Nat) (w : World) : World :=
  ((w.alloc (.cells #[.func (.yield lid) #[] #[]] 108)).alloc (.cells #[.slice none 0 0] 22)).alloc (.cells #[.func (.func 86) #[] #[.pointer (some ⟨w.heap.size + 1, 0, none⟩), .pointer (some ⟨Bb, 0, none⟩), .pointer (some ⟨w.heap.size, 0, none⟩), .pointer (some ⟨w.heap.size + 1 + 1, 0, none⟩)]] 35)
theorem rw5_bel (lid Bb : Nat) (w : World) : Below w.heap.size w (rw5 lid Bb w) := by
  unfold rw5
  exact (((Below.refl w.heap.size w).alloc (Nat.le_refl _) _).alloc (by simp) _).alloc (by simp; omega) _
theorem rw5_rm {bs : List Bk} {A : Option Addr} {c n0 Bb lid : Nat} {w : World} (hb : w.heap[Bb]? = some (.cells #[.slice A bs.length c] 68 (0, 0))) (hk : Bks w n0 A bs) (hn : n0 ≤ w.heap.size) : RM bs A c n0 Bb w.heap.size lid [] (.slice none 0 0) (rw5 lid Bb w) where
  y_ := by
    unfold rw5
    rw [Below.heap_alloc _ _ _ (by simp; omega), Below.heap_alloc _ _ _ (by simp)]
    exact heap_alloc_new w _
  r_ := by
    unfold rw5
    rw [Below.heap_alloc _ _ _ (by simp)]
    have := heap_alloc_new (w.alloc (.cells #[.func (.yield lid) #[] #[]] 108)) (.cells #[.slice none 0 0] 22)
    simpa using this
  n_ := by
    unfold rw5
    have := heap_alloc_new ((w.alloc (.cells #[.func (.yield lid) #[] #[]] 108)).alloc (.cells #[.slice none 0 0] 22)) (.cells #[.func (.func 86) #[] #[.pointer (some ⟨w.heap.size + 1, 0, none⟩), .pointer (some ⟨Bb, 0, none⟩), .pointer (some ⟨w.heap.size, 0, none⟩), .pointer (some ⟨w.heap.size + 1 + 1, 0, none⟩)]] 35)
    simpa [caps] using this
  b_ := ((rw5_bel lid Bb w).block Bb (lt_of_block hb)).trans hb
  own := World.ownsRow_nil _ _ _ _
  bks := hk.below ((rw5_bel lid Bb w).mono hn)
  sz := by simp [rw5]
set_option maxRecDepth 100000 in
set_option maxHeartbeats 2000000 in
theorem rows_seq (bs : List Bk) (h0 : blksErr bs = 0) (A : Option Addr) (c n0 Bb : Nat) (w0 : World) (hk : Bks w0 n0 A bs) (hb : w0.heap[Bb]? = some (.cells #[.slice A bs.length c] 68 (0, 0))) (hn0 : n0 ≤ w0.heap.size) (n : Nat) :
    SeqC Fence.wide n Try.prog 85 #[.pointer (some ⟨Bb, 0, none⟩)] (fun x : Ln => #[x.val]) lblk (fun x W => Rc W x) n0 Bb (fun xs => sig xs = (allRows bs).map nz) (fun pre => sig pre <+: (allRows bs).map nz) 16777216 w0 := by
  intro lid J Jx W hbW hJ hJx hY hj
  have hbW2 := (hbW.block Bb (lt_of_block hb)).trans hb
  have hkW := hk.below (hbW.mono hn0)
  have hnW : n0 ≤ W.heap.size := Nat.le_trans hn0 hbW.size
  have hBb : Bb < W.heap.size := lt_of_block hbW2
  have hn8 := (blks_ok h0).1
  have hR := rows_in bs h0 A c n0 Bb W.heap.size lid 16777216 hnW hBb J Jx hJ (fun m pre x W1 h1 h2 h3 h4 => yield_any rfl m (hY pre x W1 h1 h2 h3 h4)) bs.length [] (.slice none 0 0) [] (rw5 lid Bb W) (n - 1) (by simp) (by simp) (rw5_rm hbW2 hkW hnW)
    (hJ _ _ _ none hj (grown_of_below (rw5_bel lid Bb W)) (fun r e => by cases e)) (fun x hx => by cases hx) (by have := pow_small hn8; simp; omega)
  have HR := hid (fun w5 (h : w5 = rw5 lid Bb W) => h ▸ hR)
  clear hR hY hJ hJx hj hk hb hbW hbW2 hkW hnW
  have hst : ∀ (m : Mode) (a : Addr) (fn : Fn) (first cap : Array Value) (w : World), (store a (.func fn first cap) m).run Try.prog w = stored Try.prog w a (.func fn first cap) m := fun m a fn first cap w => run_store _ w a _ m rfl
  have z4 : (((W.alloc (.cells #[.func (.yield lid) #[] #[]] 108)).alloc (.cells #[.slice none 0 0] 22)).alloc (.cells #[.nilFunc] 35)).cell? ⟨W.heap.size + 1 + 1, 0, none⟩ = some .nilFunc := by simp [go_sem]
  have z5 : (((W.alloc (.cells #[.func (.yield lid) #[] #[]] 108)).alloc (.cells #[.slice none 0 0] 22)).alloc (.cells #[.nilFunc] 35)).frozen? ⟨W.heap.size + 1 + 1, 0, none⟩ = false := by simp [go_sem]
  have hdd : ∀ k : Nat, (Fence.wide.depth.isSome = true → 1 ≤ k) := fun k h => by cases h
  refine callsIn_of_wp Try.func85 rfl trivial ?_ rfl
  simp only [Try.ntmps85, List.size_toArray, List.length_cons, List.length_nil, Nat.reduceAdd, Nat.reduceSub, Array.replicate_succ, Array.replicate_zero, List.push_toArray, List.append_toArray, List.nil_append, List.cons_append]
  gi_wp2_with (first | ((first | refine ⟨trivial, hdd _, ?_⟩ | refine ⟨hdd _, ?_⟩ | skip); gi_at_call 86; refine (HR.out _ rfl).mono ?_; rintro e w5 h5; obtain ⟨bb, rfl, h6⟩ := yes_no h5; clear h5))
  go_end0
  refine ⟨⟨_, rfl⟩, ?_⟩
  rcases h6 with ⟨_, xs, v', h1, h2, _⟩ | ⟨_, q, h1, h2⟩
  · exact .inl ⟨xs, h2, h1⟩
  · exact .inr ⟨q, h1, h2⟩
set_option maxRecDepth 100000 in
theorem rows_any (bs : List Bk) (A : Option Addr) (c : Nat) (w : World) :
    Calls Try.prog 69 #[.slice A bs.length c] w fun e w' => e = .returned (.func (.func 85) #[] #[.pointer (some ⟨w.heap.size, 0, none⟩)]) ∧ w' = w.alloc (.cells #[.slice A bs.length c] 68) := by
  go_enter Try.func69, Try.ntmps69
  go_wp2_with fail
  go_ret
  exact ⟨rfl, rfl⟩
end Go.Proofs.Ytoljnbbhoeloeaa

/- WALK: the library's Count. -/
namespace Go.Proofs.Ytoljnbbhoeloeaa
open Go.RowKit Go.Shelf
attribute [local go_sem] Oper.semAt_some
theorem ri_put {x : Ln} {W : World} {l : Nat} {o : Obj} (o' : Obj) (hl : W.heap[l]? = some o) (ho : o.isCells = false) (h : Ri W x.1 x.2.2) : Ri (W.putObj l o') x.1 x.2.2 := by
  refine h.keep (n0 := 0) ⟨(Below.refl 0 W).grown (grownBy_putObj' W l o') (Nat.zero_le _) (fun k e => Nat.zero_le _), fun k cs fz hk => World.putObj_heap_other fun e => ?_⟩
  subst e
  rw [hl] at hk
  injection hk with hk
  rw [hk] at ho
  cases ho
theorem kept_set {n0 Bb B : Nat} {W : World} {a : Addr} {v : Value} (h1 : n0 ≤ a.block) (h2 : a.block ≠ Bb) (h3 : a.block < B) : KeptC n0 Bb B W (W.setCell a v) :=
  ⟨(Below.refl n0 W).setCell h1 v, fun k o hk h => by
    rw [Below.heap_setCell _ _ _ _ (by omega)]
    exact h⟩
/-- A block that neither the iterator nor the loop's book-keeping writes. -/
theorem caller_keeps {B k : Nat} {s : List Ln} {W W' : World} {row : Option Nat} {o : Obj} (hk : k + 2 < B) (h : W.heap[k]? = some o) (hg : W.grownBy W' row) (hr : ∀ r, row = some r → MayW B lblk s W r ∨ (B ≤ r + 2 ∧ ∃ o : Obj, W.heap[r]? = some o ∧ o.isCells = false)) : W'.heap[k]? = some o :=
  (hg.block k (lt_of_block h) fun e => by
    rcases hr k e.symm with h1 | h1
    · have := h1.1; omega
    · have := h1.1; omega).trans h
theorem caller_below {B n0 : Nat} {s : List Ln} {w W W' : World} {row : Option Nat} (hk : n0 + 2 ≤ B) (hn : n0 ≤ W.heap.size) (h : Below n0 w W) (hg : W.grownBy W' row) (hr : ∀ r, row = some r → MayW B lblk s W r ∨ (B ≤ r + 2 ∧ ∃ o : Obj, W.heap[r]? = some o ∧ o.isCells = false)) : Below n0 w W' :=
  h.grown hg hn fun k e => by
    rcases hr k e with h1 | h1
    · have := h1.1; omega
    · have := h1.1; omega
set_option maxRecDepth 100000 in
set_option maxHeartbeats 2000000 in
theorem count_any (bs : List Bk) (A : Option Addr) (c : Nat) (w : World) (r : Bks w w.heap.size A bs) :
    Calls Try.prog 36 #[.slice A bs.length c] w fun e w' => e = .returned (.tuple #[.int .i64 (cntRows bs), .int .i64 (blksErr bs)]) ∧ Below w.heap.size w w' := by
  have HC := hid (fun w3 (hb : Below w.heap.size w w3) => checkBlocks_any bs A c w3 ((r.below hb).more hb.size))
  refine (callsIn_wide (n := 8)).1 ?_
  have hdd : ∀ k : Nat, (Fence.wide.depth.isSome = true → 1 ≤ k) := fun k h => by cases h
  have hal : Below w.heap.size w (w.alloc (.cells #[.int .i64 0] 3)) := (Below.refl _ _).alloc (Nat.le_refl _) _
  have hnew : (w.alloc (.cells #[.int .i64 0] 3)).heap[w.heap.size]? = some (.cells #[.int .i64 0] 3 (0, 0)) := heap_alloc_new _ _
  by_cases h0 : blksErr bs = 0
  · have hc : cntRows bs = (allRows bs).length := if_pos h0
    have hn8 := (blks_ok h0).1
    have HS := hid (fun w3 (hb : Below w.heap.size w w3) (n : Nat) => rows_seq bs h0 A c w.heap.size w3.heap.size (w3.alloc (.cells #[.slice A bs.length c] 68)) (r.below (hb.alloc hb.size _)) (heap_alloc_new _ _) (by have := hb.size; simp; omega) n)
    have HT := hid (fun w3 => rows_any bs A c w3)
    rw [h0] at HC ⊢
    rw [hc]
    clear hc
    generalize hN : bs.length = N at *
    have HN := hid hN
    clear r h0 hN
    refine callsIn_of_wp_marks Try.func36 rfl trivial ?_ rfl
    simp only [Try.ntmps36, List.size_toArray, List.length_cons, List.length_nil, Nat.reduceAdd, Nat.reduceSub, Array.replicate_succ, Array.replicate_zero, List.push_toArray, List.append_toArray, List.nil_append, List.cons_append]
    gi_wp2_with (first | ((first | refine ⟨trivial, hdd _, ?_⟩ | refine ⟨hdd _, ?_⟩ | refine ⟨trivial, ?_⟩ | skip); gi_at_call 32; refine (callsIn_wide.2 (HC.out _ hal)).mono ?_; rintro e w3 ⟨rfl, hb3⟩; have g3 := (hb3.block w.heap.size (by simp)).trans hnew; have hB3 := hal.trans (hb3.mono hal.size)) | ((first | refine ⟨trivial, hdd _, ?_⟩ | refine ⟨hdd _, ?_⟩ | refine ⟨trivial, ?_⟩ | skip); gi_at_call 69; refine (callsIn_wide.2 (HT.out _)).mono ?_; rintro e w4 ⟨rfl, rfl⟩))
    have hz3 : w.heap.size < w3.heap.size := lt_of_block g3
    have hB4 : Below w.heap.size w (w3.alloc (.cells #[.slice A N c] 68)) := hB3.alloc hB3.size _
    have g4 : (w3.alloc (.cells #[.slice A N c] 68)).heap[w.heap.size]? = some (.cells #[.int .i64 0] 3 (0, 0)) := (Below.heap_alloc _ _ _ hz3).trans g3
    have hz4 : (w3.alloc (.cells #[.slice A N c] 68)).heap.size = w3.heap.size + 1 := by simp
    have hseq := HS.out w3 hB3 7
    clear HC HS HT hb3 g3 hal hnew
    refine range_cells rfl (by omega) (gf := 85) (lb := #[.pointer (some ⟨w3.heap.size, 0, none⟩)]) rfl trivial (enters_of Try.func85 (by kernel_rfl) rfl) hseq hB4.size (by omega) (Below.refl _ _) (fun _ => rfl)
      (fun x W l o o' h1 h2 h3 => ⟨ri_put o' h1 h2 h3.1, h3.2⟩)
      (fun pre W => W.heap[w.heap.size]? = some (.cells #[.int .i64 pre.length] 3 (0, 0)) ∧ Below w.heap.size w W) (fun _ _ _ => False)
      (fun s W W' row hs hg hr => ⟨caller_keeps (by omega) hs.1 hg hr, caller_below (by omega) hs.2.size hs.2 hg hr⟩) (fun _ _ _ _ _ h _ _ => h) ⟨g4, hB4⟩
      (fun x => { tmps := #[.slice A N c, undef, .pointer (some ⟨w.heap.size, 0, none⟩), .int .i64 0, .int .i64 0, .slice A N c, .int .i64 0, .int .i64 0, .bool false, undef, .slice A N c, .func (.func 85) #[] #[.pointer (some ⟨w3.heap.size, 0, none⟩)], x.val, undef, undef, undef], defers := [] }) ?assign ?body ?done ?stop
    case assign =>
      intro l x W K hK
      gi_wp2
      rw [show (#[12] : Array Tmp).zip #[x.val] = #[(12, x.val)] from by simp]
      exact hK
    case body =>
      rintro l pre x W ⟨hc, hB⟩ hlen hx _
      have p1 := cell_of_one hc
      have z1 := free_of_one hc
      have q1 : IntKind.i64.wrap ((pre.length : Int) + 1) = (pre.length : Int) + 1 := IntWalk.i64_in _ (by omega)
      gi_wp2
      exact ⟨KeepsOthers.setCell _ _ _, kept_set (Nat.le_refl _) (by simp; omega) (by simp; omega), by rw [List.length_append]; exact one_setCell hc, hB.setCell (Nat.le_refl _) _⟩
    case done =>
      rintro D xs W hD hS ⟨hc, hB⟩ hK
      have p1 := cell_of_one hc
      have z1 := free_of_one hc
      gi_wp2
      have hK2 : (W.setCell ⟨w.heap.size, 0, none⟩ (.int .i64 xs.length)).heap[D]? = some (.deferred (some [])) := by
        rw [Below.heap_setCell _ _ _ _ (show D ≠ w.heap.size by omega)]
        exact hK
      have p4 := cell_of_one ((World.putObj_heap_other (o := .deferred none) (show w.heap.size ≠ D by omega)).trans (one_setCell (u := .int .i64 xs.length) hc))
      refine ⟨by simp, .inl ⟨_, _, rfl, run_takeDeferred hK2, ?_⟩⟩
      refine ⟨.tuple #[.int .i64 xs.length, .int .i64 0], by simp [results, Try.results36, go_sem, p4], ?_, (hB.setCell (Nat.le_refl _) _).grown (grownBy_putObj' _ _ _) (by simpa using hB.size) (fun k e => by cases e; omega)⟩
      have := congrArg List.length hS
      simp [sig] at this
      rw [this]
    case stop =>
      rintro D c pre W _ _ h _
      exact h.elim
  · have hc : cntRows bs = 0 := if_neg h0
    rw [hc]
    generalize blksErr bs = e0 at h0 HC ⊢
    generalize hN : bs.length = N at *
    clear r hc hN
    refine callsIn_of_wp_marks Try.func36 rfl trivial ?_ rfl
    simp only [Try.ntmps36, List.size_toArray, List.length_cons, List.length_nil, Nat.reduceAdd, Nat.reduceSub, Array.replicate_succ, Array.replicate_zero, List.push_toArray, List.append_toArray, List.nil_append, List.cons_append]
    gi_wp2_with (first | ((first | refine ⟨trivial, hdd _, ?_⟩ | refine ⟨hdd _, ?_⟩ | refine ⟨trivial, ?_⟩ | skip); gi_at_call 32; refine (callsIn_wide.2 (HC.out _ hal)).mono ?_; rintro e w3 ⟨rfl, hb3⟩; have g3 := (hb3.block w.heap.size (by simp)).trans hnew; have p3 := cell_of_one g3; have z3 := free_of_one g3; have hB3 := hal.trans (hb3.mono hal.size)))
    have p4 := cell_of_one (one_setCell (u := .int .i64 0) g3)
    exact ⟨.tuple #[.int .i64 0, .int .i64 e0], by simp [results, Try.results36, go_sem, p4], rfl, hB3.setCell (Nat.le_refl _) _⟩
end Go.Proofs.Ytoljnbbhoeloeaa
