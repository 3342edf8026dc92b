/- THE PLAIN LAW OF rows: the rows of blocks, in order; and what a walk that builds them keeps. -/
import Derived.Test.YtoljnbbhoeloeaaBloc
import Derived.Test.YtoljnbbhoeloeaaColor
namespace Go.Proofs.Ytoljnbbhoeloeaa
open Go.RowKit
def lastN (l : List Nat) : Nat := l.getD (l.length - 1) 0
def okNx (fit : Nat → Nat → Bool) (l : List Nat) (b : Nat) : Bool := (l.isEmpty || fit (lastN l) b) && !l.contains b
def prm (fit : Nat → Nat → Bool) (N : Nat) : Nat → List Nat → List (List Nat)
  | 0, l => [l]
  | f + 1, l => (List.range N).flatMap fun b => if okNx fit l b then prm fit N f (l ++ [b]) else []
def prmTo (fit : Nat → Nat → Bool) (N f : Nat) (l : List Nat) (s : Nat) : List (List Nat) := (List.range s).flatMap fun b => if okNx fit l b then prm fit N f (l ++ [b]) else []
theorem prmTo_0 {fit : Nat → Nat → Bool} {N f : Nat} {l : List Nat} : prmTo fit N f l 0 = [] := rfl
theorem prmTo_all {fit : Nat → Nat → Bool} {N f : Nat} {l : List Nat} : prmTo fit N f l N = prm fit N (f + 1) l := rfl
theorem prmTo_yes {fit : Nat → Nat → Bool} {N f s : Nat} {l : List Nat} (h : okNx fit l s = true) : prmTo fit N f l (s + 1) = prmTo fit N f l s ++ prm fit N f (l ++ [s]) := by
  unfold prmTo
  rw [List.range_succ, List.flatMap_append]
  simp [h]
theorem prmTo_no {fit : Nat → Nat → Bool} {N f s : Nat} {l : List Nat} (h : okNx fit l s = false) : prmTo fit N f l (s + 1) = prmTo fit N f l s := by
  unfold prmTo
  rw [List.range_succ, List.flatMap_append]
  simp [h]
theorem flat_le {α β : Type} {g : α → List β} {c : Nat} : ∀ (l : List α), (∀ x ∈ l, (g x).length ≤ c) → (l.flatMap g).length ≤ l.length * c
  | [], _ => by simp
  | a :: l, h => by
    have h1 := h a (by simp)
    have h2 := flat_le (g := g) (c := c) l fun x hx => h x (by simp [hx])
    rw [List.flatMap_cons, List.length_append, List.length_cons, Nat.add_mul, Nat.one_mul]
    omega
theorem prm_len {fit : Nat → Nat → Bool} {N : Nat} : ∀ (f : Nat) (l : List Nat), (prm fit N f l).length ≤ N ^ f
  | 0, _ => by simp [prm]
  | f + 1, l => by
    have := flat_le (g := fun b => if okNx fit l b then prm fit N f (l ++ [b]) else []) (c := N ^ f) (List.range N) fun b _ => by
      show List.length (if _ then _ else _) ≤ _
      split
      · exact prm_len f _
      · simp
    rw [List.length_range] at this
    rw [Nat.pow_succ, Nat.mul_comm]
    exact this
theorem prmTo_len {fit : Nat → Nat → Bool} {N f s : Nat} {l : List Nat} : (prmTo fit N f l s).length ≤ s * N ^ f := by
  have := flat_le (g := fun b => if okNx fit l b then prm fit N f (l ++ [b]) else []) (c := N ^ f) (List.range s) fun b _ => by
    show List.length (if _ then _ else _) ≤ _
    split
    · exact prm_len f _
    · simp
  rwa [List.length_range] at this
/-- What is kept: all below n₀, and all blocks of numbers. -/
structure Fr (n0 : Nat) (w w' : World) : Prop where
  bel : Below n0 w w'
  ints : ∀ (k : Nat) (cs : Array Value) (fz : Nat × Nat), w.heap[k]? = some (Obj.cells cs 3 fz) → w'.heap[k]? = w.heap[k]?
theorem Fr.refl (n0 : Nat) (w : World) : Fr n0 w w := ⟨Below.refl _ _, fun _ _ _ _ => rfl⟩
theorem Fr.trans {n0 : Nat} {a b c : World} (h : Fr n0 a b) (k : Fr n0 b c) : Fr n0 a c :=
  ⟨h.bel.trans k.bel, fun i cs fz hi => by
    have h1 := h.ints i cs fz hi
    rw [k.ints i cs fz (by rw [h1]; exact hi), h1]⟩
theorem Fr.of_below {n0 : Nat} {w w' : World} (h : Below w.heap.size w w') (hn : n0 ≤ w.heap.size) : Fr n0 w w' :=
  ⟨h.mono hn, fun k _ _ hk => h.block k (lt_of_block hk)⟩
theorem Fr.grown {n0 : Nat} {w w' : World} {v : Value} {n : Nat} {xs : List Value} (hown : w.ownsRow n0 22 1 v n xs) (hg : w.grownBy w' v.ownBlock) (hn : n0 ≤ w.heap.size) : Fr n0 w w' where
  bel := below_app (Below.refl n0 w) hown hg (Nat.le_refl _) hn
  ints := fun k cs fz hk => by
    refine hg.block k (lt_of_block hk) fun he => ?_
    rcases hown.2 with ⟨h2, _⟩ | ⟨g, cap, cur, hv, _, hh, _⟩
    · subst h2; cases he
    · subst hv
      injection he with he
      subst he
      have hk2 : w.heap[k]? = some (Obj.cells cs 3 fz) := hk
      rw [hh] at hk2
      injection hk2 with hk
      injection hk with _ hk _
      exact absurd hk (by decide)
/-- A row of numbers that is only read, in a block of numbers. -/
structure Ri (w : World) (A : Option Addr) (l : List Int) : Prop where
  rd : Rd w w.heap.size A l
  ty : ∀ ad, A = some ad → ∃ cs fz, w.heap[ad.block]? = some (Obj.cells cs 3 fz)
theorem Ri.keep {n0 : Nat} {w w' : World} {A : Option Addr} {l : List Int} (h : Ri w A l) (hf : Fr n0 w w') : Ri w' A l := by
  refine ⟨?_, fun ad had => ?_⟩
  · refine ⟨h.rd.1, fun hl => ?_⟩
    obtain ⟨ad, had, hb, hc⟩ := h.rd.2 hl
    obtain ⟨cs, fz, hty⟩ := h.ty ad had
    refine ⟨ad, had, Nat.lt_of_lt_of_le hb hf.bel.size, fun j u hu => ?_⟩
    have e := hf.ints _ _ _ hty
    have hb2 : (ad.add j).block = ad.block := block_of_add _ _
    exact (World.cell?_of_block (by rw [hb2]; exact e)).trans (hc j u hu)
  · obtain ⟨cs, fz, hty⟩ := h.ty ad had
    exact ⟨cs, fz, by rw [hf.ints _ _ _ hty]; exact hty⟩
/-- Rows, as the values of a list. -/
def RowsAre (w : World) (ys : List Value) (rs : List (List Nat)) : Prop := ∃ es : List Ln, ys = vals es ∧ sig es = rs.map nz ∧ ∀ t ∈ es, Ri w t.1 t.2.2
theorem RowsAre.keep {n0 : Nat} {w w' : World} {ys : List Value} {rs : List (List Nat)} (h : RowsAre w ys rs) (hf : Fr n0 w w') : RowsAre w' ys rs := by
  obtain ⟨es, h1, h2, h3⟩ := h
  exact ⟨es, h1, h2, fun t ht => (h3 t ht).keep hf⟩
theorem RowsAre.nil {w : World} : RowsAre w [] [] := ⟨[], rfl, rfl, fun t ht => by cases ht⟩
theorem RowsAre.app {w : World} {ys zs : List Value} {rs ss : List (List Nat)} (h : RowsAre w ys rs) (k : RowsAre w zs ss) : RowsAre w (ys ++ zs) (rs ++ ss) := by
  obtain ⟨es, h1, h2, h3⟩ := h
  obtain ⟨fs, k1, k2, k3⟩ := k
  refine ⟨es ++ fs, by rw [h1, k1]; simp [vals], ?_, fun t ht => ?_⟩
  · unfold sig at *
    rw [List.map_append, List.map_append, h2, k2]
  · rcases List.mem_append.1 ht with ht | ht
    · exact h3 t ht
    · exact k3 t ht
theorem RowsAre.len {w : World} {ys : List Value} {rs : List (List Nat)} (h : RowsAre w ys rs) : ys.length = rs.length := by
  obtain ⟨es, h1, h2, _⟩ := h
  have := congrArg List.length h2
  simp [sig] at this
  rw [h1]
  simp [vals, this]
theorem ri_own {w : World} {B : Nat} {A : Option Addr} {c : Nat} {l : List Nat} (h : w.ownsRow B 3 1 (.slice A l.length c) l.length (ints (nz l))) : Ri w A (nz l) := by
  refine ⟨?_, fun ad had => ?_⟩
  · have := Reads.of_own h
    unfold Rd
    rw [nz_len]
    exact this
  · rcases h.2 with ⟨h2, _⟩ | ⟨g, cap, cur, hv, _, hh, _⟩
    · injection h2 with h2
      rw [had] at h2
      cases h2
    · injection hv with hv
      rw [had] at hv
      injection hv with hv
      subst hv
      exact ⟨cur, (0, 0), hh⟩
theorem own_fr {n0 B : Nat} {w w' : World} {v : Value} {n : Nat} {xs : List Value} (h : w.ownsRow B 3 1 v n xs) (hf : Fr n0 w w') : w'.ownsRow B 3 1 v n xs := by
  obtain ⟨h1, h2⟩ := h
  refine ⟨h1, ?_⟩
  rcases h2 with h2 | ⟨g, cap, cur, hv, hg, hh, r⟩
  · exact Or.inl h2
  · exact Or.inr ⟨g, cap, cur, hv, hg, by rw [hf.ints _ _ _ hh]; exact hh, r⟩
end Go.Proofs.Ytoljnbbhoeloeaa

/- WALK: the reference's rows. -/
namespace Go.Proofs.Ytoljnbbhoeloeaa
open Go.RowKit
theorem Try.infoLine : (Try.prog.info? 22).map (fun i => (i.zero, i.size, i.bytes)) = some (some (.slice none 0 0), 1, 24) := by kernel_rfl
/-- Whether two blocks fit, by their numbers. -/
def fitN (bs : List Bk) (i j : Nat) : Bool := fitB (bR bs i) (bL bs j)
def frB (p : Bool) (l : List Nat) (s i : Nat) : Bool := p && !(l.take i).contains s
theorem frB_0 {p : Bool} {l : List Nat} {s : Nat} : frB p l s 0 = p := by simp [frB]
theorem frB_yes {p : Bool} {l : List Nat} {s i : Nat} (h : i < l.length) (e : l.getD i 0 = s) : frB p l s (i + 1) = false := by
  unfold frB
  have hm : s ∈ l.take (i + 1) := by
    rw [List.take_add_one, List.getElem?_eq_getElem h, Option.toList_some]
    rw [List.getD, List.getElem?_eq_getElem h] at e
    exact List.mem_append_right _ (by rw [← e]; simp)
  rw [List.contains_iff_mem.2 hm]
  simp
theorem frB_no {p : Bool} {l : List Nat} {s i : Nat} (h : i < l.length) (e : ¬ l.getD i 0 = s) : frB p l s (i + 1) = frB p l s i := by
  unfold frB
  rw [List.take_add_one, List.getElem?_eq_getElem h, Option.toList_some]
  rw [List.getD, List.getElem?_eq_getElem h] at e
  simp only [Option.getD_some] at e
  have : (l.take i ++ [l[i]]).contains s = (l.take i).contains s := by
    rw [Bool.eq_iff_iff, List.contains_iff_mem, List.contains_iff_mem]
    constructor
    · intro hm
      rcases List.mem_append.1 hm with hm | hm
      · exact hm
      · exact absurd (List.mem_singleton.1 hm).symm e
    · exact fun hm => List.mem_append_left _ hm
  rw [this]
theorem frB_all {bs : List Bk} {l : List Nat} {s : Nat} : frB (l.isEmpty || fitN bs (lastN l) s) l s l.length = okNx (fitN bs) l s := by
  unfold frB okNx
  rw [List.take_length]
theorem frB_f {l : List Nat} {s i : Nat} {p : Bool} (h : frB p l s i = false) (hi : i < l.length) : frB p l s (i + 1) = false := by
  by_cases e : l.getD i 0 = s
  · exact frB_yes hi e
  · rw [frB_no hi e]; exact h
theorem pow_room {N f s a b : Nat} (h : a + N ^ (f + 1) ≤ 1000000000) (hs : s < N) (hb : b ≤ s * N ^ f) : a + b + N ^ f ≤ 1000000000 := by
  have h1 : (s + 1) * N ^ f ≤ N * N ^ f := Nat.mul_le_mul_right _ hs
  rw [Nat.add_mul, Nat.one_mul] at h1
  rw [Nat.pow_succ, Nat.mul_comm] at h
  omega
set_option maxRecDepth 100000 in
set_option maxHeartbeats 4000000 in
theorem ref_rows_any (bs : List Bk) (h0 : blksErr bs = 0) (A : Option Addr) (c n0 : Nat) : ∀ (f : Nat) (l : List Nat) (v lv : Value) (xs : List Value) (w : World), l.length + f = bs.length → (∀ x ∈ l, x < bs.length) →
    w.ownsRow 0 3 1 v l.length (ints (nz l)) → w.ownsRow n0 22 1 lv xs.length xs → n0 ≤ w.heap.size → Bks w n0 A bs → xs.length + bs.length ^ f ≤ 1000000000 →
    Calls Try.prog 70 #[.slice A bs.length c, v, lv] w fun e w' => ∃ v' ys, e = .returned v' ∧ w'.ownsRow n0 22 1 v' (xs ++ ys).length (xs ++ ys) ∧ RowsAre w' ys (prm (fitN bs) bs.length f l) ∧ Fr n0 w w' := by
  intro f
  induction f with
  | zero =>
    intro l v lv xs w hl hlt hown hlist hn0 r hroom
    obtain ⟨A0, c0, rfl, _, _⟩ := own_at hown
    have hd : ((l.length : Int) == bs.length) = true := by simp; omega
    have HO := hid hown; have HLs := hid hlist
    have hal := hlist.alloc (.cells #[.slice A0 l.length c0] 22)
    have hxl : xs.length ≤ 1000000000 := by omega
    clear r hown hroom hlist
    go_enter Try.func70, Try.ntmps70
    go_wp2_with (at_builtin; refine app_one rfl (.tmp 15) (.tmp 17) Try.underlying23 Try.infoLine rfl (by decide) rfl n0 _ _ _ rfl hal ⟨w.heap.size, 0, none⟩ (.slice A0 l.length c0) rfl (cell_new1 _ _ _) rfl (by omega) (by simp; omega) ?_; intro v4 w4 hown4 hgrow)
    go_ret
    have hf1 : Fr n0 w (w.alloc (.cells #[.slice A0 l.length c0] 22)) := Fr.of_below ((Below.refl _ _).alloc (Nat.le_refl _) _) hn0
    have hf2 := hf1.trans (Fr.grown hal hgrow (by simp; omega))
    refine ⟨_, [.slice A0 l.length c0], rfl, by rw [List.length_append]; exact hown4, ⟨[(A0, c0, nz l)], ?_, rfl, fun t ht => ?_⟩, hf2⟩
    · simp [vals, Ln.val, nz_len]
    · obtain rfl := List.mem_singleton.1 ht
      exact (ri_own HO.out).keep hf2
  | succ f ih =>
    intro l v lv xs w hl hlt hown hlist hn0 r hroom
    obtain ⟨A0, c0, rfl, _, hat⟩ := own_at hown
    have hn8 := (blks_ok h0).1
    obtain ⟨N, hN⟩ : ∃ N, N = bs.length := ⟨_, rfl⟩
    rw [← hN] at ih hl hlt hroom hn8 ⊢
    have hd : ((l.length : Int) == N) = false := by simp; omega
    have HN := hid hN; have HO := hid hown; have HLs := hid hlist; have R := hid r; have HAT := hid hat; have IH := hid ih; have HRM := hid hroom; have HLT := hid hlt; have H0 := hid h0
    clear hN hown hlist r hat ih hroom hlt h0
    go_enter Try.func70, Try.ntmps70
    go_wp2_with fail
    go_loopw [2, 7] (fun tv bv wr => ∃ (s : Nat) (ys : List Value), s ≤ N ∧ bv = .int .i64 s ∧ Hid (wr.ownsRow n0 22 1 tv (xs ++ ys).length (xs ++ ys)) ∧ Hid (RowsAre wr ys (prmTo (fitN bs) N f l s)) ∧ Hid (Fr n0 w wr)) (fun _ i _ => N - (intOf i).toNat)
    case atStart => exact ⟨0, [], by omega, rfl, by rw [List.append_nil]; exact HLs.out, RowsAre.nil, Fr.refl _ _⟩
    case round =>
      obtain ⟨s, ys, hs, rfl, hOw, hRo, hFr⟩ := hrel
      obtain ⟨wo, rfl⟩ : ∃ wo : World, wo = wr := ⟨_, rfl⟩
      by_cases hsN : s < N
      · by_cases hle : l.length = 0
        · have hd0 : ((l.length : Int) == 0) = true := by rw [hle]; rfl
          have HPP : Hid ((l.isEmpty || fitN bs (lastN l) s) = true) := by
            rw [List.eq_nil_of_length_eq_zero hle]; rfl
          clear hle
          go_wp2_with fail
          go_quiet (fail)
          go_wp2_with fail
          obtain ⟨w2, hw2⟩ : ∃ w2, w2 = wo.drewN nq := ⟨_, rfl⟩
          have hb2 : Below wo.heap.size wo w2 := by rw [hw2]; exact below_drewN (Below.refl _ _) _
          rw [← hw2]
          clear hw2
          have HO2 := hid (own_keep (own_fr HO.out hFr.out) hb2)
          have hsz : n0 ≤ wo.heap.size := Nat.le_trans hn0 hFr.out.bel.size
          have HL2 := hid (own_keep hOw.out hb2)
          have HFS := hid (Fr.of_below hb2 hsz)
          have HRo2 := hid (hRo.out.keep HFS.out)
          have HFr2 := hid (hFr.out.trans HFS.out)
          have hsz2 : n0 ≤ w2.heap.size := Nat.le_trans hsz hb2.size
          obtain ⟨A3, c3, hv3, hpart, hat⟩ := own_at HO2.out
          injection hv3 with e1 _ e3
          subst e1; subst e3
          have HAT2 := hid hat; have HPT2 := hid hpart
          clear hat hpart hb2 HFS
          go_loopw [8, 9] (fun fv iv wi => ∃ i : Nat, i ≤ l.length ∧ iv = .int .i64 i ∧ fv = .bool (frB true l s i) ∧ ∃ q, wi = w2.drewN q) (fun _ i _ => l.length - (intOf i).toNat)
          case atStart => exact ⟨0, by omega, rfl, by rw [frB_0], 0, rfl⟩
          case round =>
            obtain ⟨i, hi, rfl, rfl, q, rfl⟩ := hrel
            by_cases hil : i < l.length
            · obtain ⟨g2, hgg, hgl2, hcs⟩ := HAT2.out (by omega)
              first | subst hgg | (injection hgg with hgg; injection hgg with hgg; subst hgg)
              have p1 := hcs i hil
              have hy := frB_yes (p := true) (s := s) hil
              have hn := frB_no (p := true) (s := s) hil
              have hf := frB_f (p := true) (s := s) (i := i) (l := l)
              generalize l.getD i 0 = oi at p1 hy hn
              clear hcs
              cases hbb : frB true l s i with
              | false =>
                have HX := hid (hf hbb hil)
                clear hy hn hf hbb
                go_wp2_with fail
                go_roundw
                case rel => exact ⟨i + 1, by omega, by go_num, by rw [HX.out], q, rfl⟩
                case measure => simp [intOf]; omega
              | true =>
                rw [hbb] at hn
                by_cases hoi : oi = s
                · have HX := hid (hy hoi)
                  have hne : ((oi : Int) != s) = false := by simp; omega
                  clear hy hn hf hbb
                  go_wp2_with fail
                  go_roundw
                  case rel => exact ⟨i + 1, by omega, by go_num, by rw [HX.out], q, rfl⟩
                  case measure => simp [intOf]; omega
                · have HX := hid (hn hoi)
                  have hne : ((oi : Int) != s) = true := by simp; omega
                  clear hy hn hf hbb
                  go_wp2_with fail
                  go_roundw
                  case rel => exact ⟨i + 1, by omega, by go_num, by rw [HX.out], q, rfl⟩
                  case measure => simp [intOf]; omega
            · obtain rfl : i = l.length := by omega
              have hok := frB_all (bs := bs) (l := l) (s := s)
              rw [HPP.out] at hok
              rw [hok]
              clear hok
              cases hok2 : okNx (fitN bs) l s with
              | false =>
                have HN2 : Hid (RowsAre (w2.drewN q) ys (prmTo (fitN bs) N f l (s + 1))) := by
                  rw [prmTo_no hok2]; exact HRo2.out.keep (Fr.of_below (below_drewN (Below.refl _ _) _) hsz2)
                have HL3 := hid (own_keep HL2.out (below_drewN (Below.refl w2.heap.size w2) q))
                have HF3 := hid (HFr2.out.trans (Fr.of_below (below_drewN (Below.refl w2.heap.size w2) q) hsz2))
                clear hok2
                go_wp2_with fail
                go_roundw
                case rel => exact ⟨s + 1, ys, by omega, by go_num, HL3.out, HN2.out, HF3.out⟩
                case measure => simp [intOf]; omega
              | true =>
                obtain ⟨w5, hw5⟩ : ∃ w5, w5 = w2.drewN q := ⟨_, rfl⟩
                have hb5 : Below w2.heap.size w2 w5 := by rw [hw5]; exact below_drewN (Below.refl _ _) _
                rw [← hw5]
                clear hw5
                have HL5 := hid (own_keep HL2.out hb5)
                have HP5 := hid (part_own (own_keep HO2.out hb5))
                have HF5 := hid (HFr2.out.trans (Fr.of_below hb5 hsz2))
                have HR5 := hid (HRo2.out.keep (Fr.of_below hb5 hsz2))
                have hsz5 : n0 ≤ w5.heap.size := Nat.le_trans hsz2 hb5.size
                have hyl := hRo.out.len
                have hyl2 := prmTo_len (fit := fitN bs) (N := N) (f := f) (s := s) (l := l)
                have HRM2 : Hid ((xs ++ ys).length + N ^ f ≤ 1000000000) := by
                  rw [List.length_append]; exact pow_room HRM.out hsN (by omega)
                have HLT2 : Hid (∀ x ∈ l ++ [s], x < N) := fun x hx => by
                  rcases List.mem_append.1 hx with hx | hx
                  · exact HLT.out x hx
                  · rw [List.mem_singleton.1 hx]; exact hsN
                have HYS : Hid (prmTo (fitN bs) N f l (s + 1) = prmTo (fitN bs) N f l s ++ prm (fitN bs) N f (l ++ [s])) := prmTo_yes hok2
                clear hok2 hyl hyl2 hb5
                go_wp2_with (first | (at_builtin; refine app_line rfl (.const (.slice none 0 0)) (.tmp 61) Try.underlying22 Try.infoInt rfl (by decide) rfl w5.heap.size _ _ [] rfl (World.ownsRow_nil _ _ _ _) _ l.length c0 (nz l) rfl HP5.out (by omega) (Nat.le_refl _) ?_; intro v4 w4 hown4 hgrow4; have HB4 := hid (below_app (Below.refl w5.heap.size w5) (World.ownsRow_nil w5 w5.heap.size 3 1) hgrow4 (Nat.le_refl _) (Nat.le_refl _)); have hown5 := hown4.alloc (.cells #[.int .i64 s] 3)) | (at_builtin; refine app_one rfl (.tmp 62) (.tmp 64) Try.underlying22 Try.infoInt rfl (by decide) rfl w5.heap.size _ _ _ rfl hown5 ⟨w4.heap.size, 0, none⟩ (.int .i64 s) rfl (cell_new1 _ _ _) rfl (by omega) (by have := HB4.out.size; simp; omega) ?_; intro v6 w6 hown6 hgrow6; have HB6 := hid (below_app (HB4.out.alloc HB4.out.size (.cells #[.int .i64 s] 3)) hown5 hgrow6 (Nat.le_refl _) (by have := HB4.out.size; simp; omega)); have HF6 := hid (HF5.out.trans (Fr.of_below HB6.out hsz5))) | (go_at_call 70; refine (IH.out (l ++ [s]) v6 _ (xs ++ ys) w6 (by simp; omega) HLT2.out (own_snoc hown6) (own_keep HL5.out HB6.out) (Nat.le_trans hsz5 HB6.out.size) (R.out.below HF6.out.bel) HRM2.out).mono ?_; rintro e w7 ⟨v7, zs, rfl, hown7, hro7, hfr7⟩))
                have HO7 : Hid (w7.ownsRow n0 22 1 v7 (xs ++ (ys ++ zs)).length (xs ++ (ys ++ zs))) := by rw [← List.append_assoc]; exact hown7
                have HR7 : Hid (RowsAre w7 (ys ++ zs) (prmTo (fitN bs) N f l (s + 1))) := by
                  rw [HYS.out]; exact ((HR5.out.keep (Fr.of_below HB6.out hsz5)).keep hfr7).app hro7
                have HF7 := hid (HF6.out.trans hfr7)
                clear hown7 hro7 hfr7
                go_roundw
                case rel => exact ⟨s + 1, ys ++ zs, by omega, by go_num, HO7.out, HR7.out, HF7.out⟩
                case measure => simp [intOf]; omega
        · have hd0 : ((l.length : Int) == 0) = false := by rw [beq_eq_false_iff_ne]; omega
          have hown2 := own_fr HO.out hFr.out
          obtain ⟨A3, c3, hv3, _, hat3⟩ := own_at hown2
          injection hv3 with e1 _ e3
          subst e1; subst e3
          obtain ⟨g, rfl, hgl, hcs⟩ := hat3 (by omega)
          have p1 := hcs (l.length - 1) (by omega)
          have hxN : lastN l < N := HLT.out _ (by unfold lastN; simp [List.getD, List.getElem?_eq_getElem (show l.length - 1 < l.length by omega)])
          have hxl : l.getD (l.length - 1) 0 = lastN l := rfl
          rw [hxl] at p1
          obtain ⟨x, hx⟩ : ∃ x, x = lastN l := ⟨_, rfl⟩
          rw [← hx] at p1 hxN
          have hRb := R.out.below hFr.out.bel
          obtain ⟨b, o, rfl, hbB, hc⟩ := hRb.at (by rw [← HN.out]; omega)
          have hx' : x < bs.length := by rw [← HN.out]; exact hxN
          have hs' : s < bs.length := by rw [← HN.out]; exact hsN
          have a0 := hc x hx'
          have a3 := hc s hs'
          have r1 := (hRb.el _ (List.getElem_mem hx')).2.1
          have r2 := (hRb.el _ (List.getElem_mem hs')).1
          have l1 := (blks_low H0.out (List.getElem_mem hx')).2.1
          have l2 := (blks_low H0.out (List.getElem_mem hs')).1
          have l4 := (blks_low H0.out (List.getElem_mem hs')).2.2.1
          have hfe : fitN bs x s = fitB bs[x].r.2.2 bs[s].l.2.2 := by unfold fitN bR bL; rw [List.getElem?_eq_getElem hx', List.getElem?_eq_getElem hs']
          generalize bs[x] = bi at a0 r1 l1 hfe
          generalize bs[s] = bj at a3 r2 l2 l4 hfe
          obtain ⟨⟨Al1, cl1, ll1⟩, ⟨Ar, cr, lr⟩, ra1, rc1, rows1⟩ := bi
          obtain ⟨⟨Al, cl, ll⟩, ⟨Ar2, cr2, lr2⟩, ra2, rc2, rows2⟩ := bj
          simp only [] at a0 a3 r1 r2 l1 l2 l4 hfe
          rw [← Nat.add_assoc, ← Nat.add_assoc] at a0 a3
          have hszo : n0 ≤ wo.heap.size := Nat.le_trans hn0 hFr.out.bel.size
          have hbw : b < wo.heap.size := by omega
          have HF := hid (fun w3 (hb3 : Below wo.heap.size wo w3) => ref_fit_any lr ll Ar Al Al1 Ar2 ra1 ra2 cr cl ll1.length cl1 rows1.length rc1 lr2.length cr2 rows2.length rc2 l1 l2 (by omega) w3 ((r1.more hszo).below hb3 |>.more hb3.size) ((r2.more hszo).below hb3 |>.more hb3.size))
          obtain ⟨c0', c1, c2⟩ := a0
          obtain ⟨c3', c4, c5⟩ := a3
          rw [← hfe] at HF
          obtain ⟨p, hp⟩ : ∃ p, p = fitN bs x s := ⟨_, rfl⟩
          rw [← hp] at HF
          have HPP : Hid ((l.isEmpty || fitN bs (lastN l) s) = p) := by
            have he : l.isEmpty = false := by
              cases l with
              | nil => simp at hle
              | cons _ _ => rfl
            rw [he, ← hx, hp]; rfl
          generalize ll1.length = n1 at c0' HF
          generalize lr.length = n2 at c1 HF
          generalize rows1.length = n3 at c2 HF
          generalize ll.length = n4 at c3' HF
          generalize lr2.length = n5 at c4 HF
          generalize rows2.length = n6 at c5 HF
          clear hp hx hfe r1 r2 l1 l2 l4 hx' hs' hc hRb hcs hat3 hown2 hxl
          have hlm : (l.length : Int) - 1 = ((l.length - 1 : Nat) : Int) := by omega
          obtain ⟨l1m, hl1m⟩ : ∃ l1m, l1m = l.length - 1 := ⟨_, rfl⟩
          rw [← hl1m] at hlm p1
          have hl1n : l1m < l.length := by omega
          clear hl1m
          have q1 : IntKind.i64.wrap ((l.length : Int) - 1) = (l.length : Int) - 1 := IntWalk.i64_in _ (by omega)
          have q2 : (0 : Int) ≤ (l.length : Int) - 1 := by omega
          have q3 : (l.length : Int) - 1 < (l.length : Int) := by omega
          have q9 : (1 : Int) ≤ (l.length : Int) := by omega
          have q10 : 1 ≤ l.length := by omega
          have q11 : 0 < l.length := by omega
          have q8 : ((l.length : Int) - 1).toNat = l1m := by omega
          clear hlm
          have q4 : (0 : Int) ≤ (x : Int) := by omega
          have q5 : (x : Int) < (N : Int) := by omega
          have q6 : (0 : Int) ≤ (s : Int) := by omega
          have q7 : (s : Int) < (N : Int) := by omega
          go_wp2_with fail
          go_region_held3 (fun w' => w'.cell? ⟨g, l1m, none⟩ = some (.int .i64 x) ∧ w'.cell? ⟨b, o + x * 3, none⟩ = some (.slice Al1 n1 cl1) ∧ w'.cell? ⟨b, o + x * 3 + 1, none⟩ = some (.slice Ar n2 cr) ∧ w'.cell? ⟨b, o + x * 3 + 2, none⟩ = some (.slice ra1 n3 rc1) ∧ w'.cell? ⟨b, o + s * 3, none⟩ = some (.slice Al n4 cl) ∧ w'.cell? ⟨b, o + s * 3 + 1, none⟩ = some (.slice Ar2 n5 cr2) ∧ w'.cell? ⟨b, o + s * 3 + 2, none⟩ = some (.slice ra2 n6 rc2)) (first | exact ⟨p1, c0', c1, c2, c3', c4, c5⟩ | exact ⟨e9, e0, e1, e2, e3, e4, e5⟩)
            (first | (go_at_call 68; refine (HF.out _ (by first | exact Below.refl _ _ | exact (Below.refl _ _).drew | exact below_drewN (Below.refl _ _) _)).mono ?_; rintro e w2 ⟨rfl, hb4⟩; have e9 := (hb4.cell (p := ⟨g, l1m, none⟩) (by simp; omega)).trans p1; have e0 := (hb4.cell (p := ⟨b, o + x * 3, none⟩) (by simp; omega)).trans c0'; have e1 := (hb4.cell (p := ⟨b, o + x * 3 + 1, none⟩) (by simp; omega)).trans c1; have e2 := (hb4.cell (p := ⟨b, o + x * 3 + 2, none⟩) (by simp; omega)).trans c2; have e3 := (hb4.cell (p := ⟨b, o + s * 3, none⟩) (by simp; omega)).trans c3'; have e4 := (hb4.cell (p := ⟨b, o + s * 3 + 1, none⟩) (by simp; omega)).trans c4; have e5 := (hb4.cell (p := ⟨b, o + s * 3 + 2, none⟩) (by simp; omega)).trans c5))
          go_wp2_with fail
          have hb2 : Below wo.heap.size wo w2 := ((Below.refl _ _).drew).trans hb4
          clear hb4 p1 c0' c1 c2 c3' c4 c5 e9 e0 e1 e2 e3 e4 e5 hl1n q1 q2 q3 q4 q5 q6 q7 q8
          have HO2 := hid (own_keep (own_fr HO.out hFr.out) hb2)
          have hsz : n0 ≤ wo.heap.size := Nat.le_trans hn0 hFr.out.bel.size
          have HL2 := hid (own_keep hOw.out hb2)
          have HFS := hid (Fr.of_below hb2 hsz)
          have HRo2 := hid (hRo.out.keep HFS.out)
          have HFr2 := hid (hFr.out.trans HFS.out)
          have hsz2 : n0 ≤ w2.heap.size := Nat.le_trans hsz hb2.size
          obtain ⟨A3, c3, hv3, hpart, hat⟩ := own_at HO2.out
          injection hv3 with e1 _ e3
          subst e1; subst e3
          have HAT2 := hid hat; have HPT2 := hid hpart
          clear hat hpart hb2 HFS
          go_loopw [8, 9] (fun fv iv wi => ∃ i : Nat, i ≤ l.length ∧ iv = .int .i64 i ∧ fv = .bool (frB p l s i) ∧ ∃ q, wi = w2.drewN q) (fun _ i _ => l.length - (intOf i).toNat)
          case atStart => exact ⟨0, by omega, rfl, by rw [frB_0], 0, rfl⟩
          case round =>
            obtain ⟨i, hi, rfl, rfl, q, rfl⟩ := hrel
            by_cases hil : i < l.length
            · obtain ⟨g2, hgg, hgl2, hcs⟩ := HAT2.out (by omega)
              first | subst hgg | (injection hgg with hgg; injection hgg with hgg; subst hgg)
              have p1 := hcs i hil
              have hy := frB_yes (p := p) (s := s) hil
              have hn := frB_no (p := p) (s := s) hil
              have hf := frB_f (p := p) (s := s) (i := i) (l := l)
              generalize l.getD i 0 = oi at p1 hy hn
              clear hcs
              cases hbb : frB p l s i with
              | false =>
                have HX := hid (hf hbb hil)
                clear hy hn hf hbb
                go_wp2_with fail
                go_roundw
                case rel => exact ⟨i + 1, by omega, by go_num, by rw [HX.out], q, rfl⟩
                case measure => simp [intOf]; omega
              | true =>
                rw [hbb] at hn
                by_cases hoi : oi = s
                · have HX := hid (hy hoi)
                  have hne : ((oi : Int) != s) = false := by simp; omega
                  clear hy hn hf hbb
                  go_wp2_with fail
                  go_roundw
                  case rel => exact ⟨i + 1, by omega, by go_num, by rw [HX.out], q, rfl⟩
                  case measure => simp [intOf]; omega
                · have HX := hid (hn hoi)
                  have hne : ((oi : Int) != s) = true := by simp; omega
                  clear hy hn hf hbb
                  go_wp2_with fail
                  go_roundw
                  case rel => exact ⟨i + 1, by omega, by go_num, by rw [HX.out], q, rfl⟩
                  case measure => simp [intOf]; omega
            · obtain rfl : i = l.length := by omega
              have hok := frB_all (bs := bs) (l := l) (s := s)
              rw [HPP.out] at hok
              rw [hok]
              clear hok
              cases hok2 : okNx (fitN bs) l s with
              | false =>
                have HN2 : Hid (RowsAre (w2.drewN q) ys (prmTo (fitN bs) N f l (s + 1))) := by
                  rw [prmTo_no hok2]; exact HRo2.out.keep (Fr.of_below (below_drewN (Below.refl _ _) _) hsz2)
                have HL3 := hid (own_keep HL2.out (below_drewN (Below.refl w2.heap.size w2) q))
                have HF3 := hid (HFr2.out.trans (Fr.of_below (below_drewN (Below.refl w2.heap.size w2) q) hsz2))
                clear hok2
                go_wp2_with fail
                go_roundw
                case rel => exact ⟨s + 1, ys, by omega, by go_num, HL3.out, HN2.out, HF3.out⟩
                case measure => simp [intOf]; omega
              | true =>
                obtain ⟨w5, hw5⟩ : ∃ w5, w5 = w2.drewN q := ⟨_, rfl⟩
                have hb5 : Below w2.heap.size w2 w5 := by rw [hw5]; exact below_drewN (Below.refl _ _) _
                rw [← hw5]
                clear hw5
                have HL5 := hid (own_keep HL2.out hb5)
                have HP5 := hid (part_own (own_keep HO2.out hb5))
                have HF5 := hid (HFr2.out.trans (Fr.of_below hb5 hsz2))
                have HR5 := hid (HRo2.out.keep (Fr.of_below hb5 hsz2))
                have hsz5 : n0 ≤ w5.heap.size := Nat.le_trans hsz2 hb5.size
                have hyl := hRo.out.len
                have hyl2 := prmTo_len (fit := fitN bs) (N := N) (f := f) (s := s) (l := l)
                have HRM2 : Hid ((xs ++ ys).length + N ^ f ≤ 1000000000) := by
                  rw [List.length_append]; exact pow_room HRM.out hsN (by omega)
                have HLT2 : Hid (∀ x ∈ l ++ [s], x < N) := fun x hx => by
                  rcases List.mem_append.1 hx with hx | hx
                  · exact HLT.out x hx
                  · rw [List.mem_singleton.1 hx]; exact hsN
                have HYS : Hid (prmTo (fitN bs) N f l (s + 1) = prmTo (fitN bs) N f l s ++ prm (fitN bs) N f (l ++ [s])) := prmTo_yes hok2
                clear hok2 hyl hyl2 hb5
                go_wp2_with (first | (at_builtin; refine app_line rfl (.const (.slice none 0 0)) (.tmp 61) Try.underlying22 Try.infoInt rfl (by decide) rfl w5.heap.size _ _ [] rfl (World.ownsRow_nil _ _ _ _) _ l.length c0 (nz l) rfl HP5.out (by omega) (Nat.le_refl _) ?_; intro v4 w4 hown4 hgrow4; have HB4 := hid (below_app (Below.refl w5.heap.size w5) (World.ownsRow_nil w5 w5.heap.size 3 1) hgrow4 (Nat.le_refl _) (Nat.le_refl _)); have hown5 := hown4.alloc (.cells #[.int .i64 s] 3)) | (at_builtin; refine app_one rfl (.tmp 62) (.tmp 64) Try.underlying22 Try.infoInt rfl (by decide) rfl w5.heap.size _ _ _ rfl hown5 ⟨w4.heap.size, 0, none⟩ (.int .i64 s) rfl (cell_new1 _ _ _) rfl (by omega) (by have := HB4.out.size; simp; omega) ?_; intro v6 w6 hown6 hgrow6; have HB6 := hid (below_app (HB4.out.alloc HB4.out.size (.cells #[.int .i64 s] 3)) hown5 hgrow6 (Nat.le_refl _) (by have := HB4.out.size; simp; omega)); have HF6 := hid (HF5.out.trans (Fr.of_below HB6.out hsz5))) | (go_at_call 70; refine (IH.out (l ++ [s]) v6 _ (xs ++ ys) w6 (by simp; omega) HLT2.out (own_snoc hown6) (own_keep HL5.out HB6.out) (Nat.le_trans hsz5 HB6.out.size) (R.out.below HF6.out.bel) HRM2.out).mono ?_; rintro e w7 ⟨v7, zs, rfl, hown7, hro7, hfr7⟩))
                have HO7 : Hid (w7.ownsRow n0 22 1 v7 (xs ++ (ys ++ zs)).length (xs ++ (ys ++ zs))) := by rw [← List.append_assoc]; exact hown7
                have HR7 : Hid (RowsAre w7 (ys ++ zs) (prmTo (fitN bs) N f l (s + 1))) := by
                  rw [HYS.out]; exact ((HR5.out.keep (Fr.of_below HB6.out hsz5)).keep hfr7).app hro7
                have HF7 := hid (HF6.out.trans hfr7)
                clear hown7 hro7 hfr7
                go_roundw
                case rel => exact ⟨s + 1, ys ++ zs, by omega, by go_num, HO7.out, HR7.out, HF7.out⟩
                case measure => simp [intOf]; omega
      · obtain rfl : N = s := by omega
        go_wp2_with fail
        go_ret
        exact ⟨_, ys, rfl, hOw.out, hRo.out, hFr.out⟩
end Go.Proofs.Ytoljnbbhoeloeaa

/- WALK: the reference's Count. -/
namespace Go.Proofs.Ytoljnbbhoeloeaa
open Go.RowKit
def allRows (bs : List Bk) : List (List Nat) := prm (fitN bs) bs.length bs.length []
def cntRows (bs : List Bk) : Nat := if blksErr bs = 0 then (allRows bs).length else 0
theorem pow_small {N : Nat} (h : N ≤ 8) : N ^ N ≤ 16777216 := by
  have h1 : N ^ N ≤ 8 ^ N := Nat.pow_le_pow_left h N
  have h2 : 8 ^ N ≤ 8 ^ 8 := Nat.pow_le_pow_right (by omega) h
  have h3 : (8 : Nat) ^ 8 = 16777216 := by decide
  omega
set_option maxRecDepth 100000 in
set_option maxHeartbeats 2000000 in
theorem ref_count_any (bs : List Bk) (A : Option Addr) (c : Nat) (w : World) (r : Bks w w.heap.size A bs) :
    Calls Try.prog 37 #[.slice A bs.length c] w fun e w' => e = .returned (.tuple #[.int .i64 (cntRows bs), .int .i64 (blksErr bs)]) ∧ Below w.heap.size w w' := by
  have HC := hid (ref_checkBlocks_any bs A c w r)
  by_cases h0 : blksErr bs = 0
  · have hc : cntRows bs = (allRows bs).length := if_pos h0
    have hn8 := (blks_ok h0).1
    have hR := fun w3 (hb : Below w.heap.size w w3) => ref_rows_any bs h0 A c w.heap.size bs.length [] (.slice none 0 0) (.slice none 0 0) [] w3 (by simp) (by simp) (World.ownsRow_nil _ _ _ _) (World.ownsRow_nil _ _ _ _) hb.size (r.below hb) (by have := pow_small hn8; simp; omega)
    have HR := hid hR
    rw [h0] at HC ⊢
    rw [hc]
    unfold allRows
    clear hc
    generalize hN : bs.length = N at *
    clear r hR h0 hN
    go_enter Try.func37, Try.ntmps37
    go_wp2_with (first | (go_at_call 33; refine HC.out.mono ?_; rintro e w3 ⟨rfl, hb3⟩; have HB3 := hid hb3) | (go_at_call 70; refine (HR.out _ HB3.out).mono ?_; rintro e w4 ⟨v4, ys, rfl, hown4, hro4, hfr4⟩; rw [List.nil_append] at hown4; obtain ⟨A4, c4, rfl⟩ := own_slice hown4))
    go_ret2
    exact ⟨by rw [← hro4.len]; rfl, HB3.out.trans hfr4.bel⟩
  · have hc : cntRows bs = 0 := if_neg h0
    rw [hc]
    generalize blksErr bs = e0 at h0 HC ⊢
    generalize hN : bs.length = N at *
    clear r hc hN
    go_enter Try.func37, Try.ntmps37
    go_wp2_with (first | (go_at_call 33; refine HC.out.mono ?_; rintro e w3 ⟨rfl, hb3⟩; have HB3 := hid hb3))
    go_ret2
    exact ⟨rfl, HB3.out⟩
end Go.Proofs.Ytoljnbbhoeloeaa
