/- WALK: the closure of copies.assign, which gives scribes to the copies behind those that have one. -/
import Derived.Test.YtoljnbbhoeloeaaHandsL
namespace Go.Proofs.Ytoljnbbhoeloeaa
open Go.RowKit
/-- What the closure next finds: which copies are apart, how many copies and scribes, and next itself. -/
structure AFix (N S B : Nat) (ap : Nat → Nat → Bool) (w : World) : Prop where
  n_ : w.cell? ⟨B + 1, 0, none⟩ = some (.int .i64 N)
  s_ : w.cell? ⟨B + 2, 0, none⟩ = some (.int .i64 S)
  ap_ : ∀ i k, i < 8 → k < 8 → w.cell? ⟨B, i * 8 + k, none⟩ = some (.bool (ap i k))
  nx : w.cell? ⟨B + 4, 0, none⟩ = some (.func (.func 88) #[] #[.pointer (some ⟨B + 3, 0, none⟩), .pointer (some ⟨B + 1, 0, none⟩), .pointer (some ⟨B + 2, 0, none⟩), .pointer (some ⟨B, 0, none⟩), .pointer (some ⟨B + 4, 0, none⟩)])
/-- What it changes: the list of scribes so far, and its cell. -/
structure AMem (w0 : World) (B : Nat) (l : List Nat) (v : Value) (w : World) : Prop where
  os : w.os = w0.os
  tape : w.tape = w0.tape
  output : w.output = w0.output
  sz : B + 5 ≤ w.heap.size
  size : w0.heap.size ≤ w.heap.size
  fx : ∀ k, k < B + 5 → k ≠ B + 3 → w.heap[k]? = w0.heap[k]?
  lb : w.heap[B + 3]? = some (.cells #[v] 22 (0, 0))
  own : w.ownsRow (B + 5) 3 1 v l.length (ints (nz l))
theorem AMem.cell {w0 w : World} {B k o : Nat} {l : List Nat} {v u : Value} (h : AMem w0 B l v w) (hk : k < B + 5) (hne : k ≠ B + 3) (hc : w0.cell? ⟨k, o, none⟩ = some u) : w.cell? ⟨k, o, none⟩ = some u :=
  (World.cell?_of_block (h.fx k hk hne)).trans hc
theorem AMem.lcell {w0 w : World} {B : Nat} {l : List Nat} {v : Value} (h : AMem w0 B l v w) : w.cell? ⟨B + 3, 0, none⟩ = some v := cell_of_one h.lb
theorem AMem.lfree {w0 w : World} {B : Nat} {l : List Nat} {v : Value} (h : AMem w0 B l v w) : w.frozen? ⟨B + 3, 0, none⟩ = false := free_of_one h.lb
theorem AMem.bel {w0 w : World} {B : Nat} {l : List Nat} {v : Value} (h : AMem w0 B l v w) : Below B w0 w :=
  ⟨h.os, h.tape, h.output, h.size, fun k hk => h.fx k (by omega) (by omega)⟩
theorem own_keep {w w' : World} {B : Nat} {v : Value} {e : TypeId} {size n : Nat} {xs : List Value} (h : w.ownsRow B e size v n xs) (hb : Below w.heap.size w w') : w'.ownsRow B e size v n xs := by
  obtain ⟨h1, h2⟩ := h
  refine ⟨h1, ?_⟩
  rcases h2 with h2 | ⟨g, cap, cur, hv, hg, hh, r⟩
  · exact Or.inl h2
  · exact Or.inr ⟨g, cap, cur, hv, hg, by rw [hb.block g (lt_of_block hh)]; exact hh, r⟩
theorem AMem.below {w0 w w' : World} {B : Nat} {l : List Nat} {v : Value} (h : AMem w0 B l v w) (hb : Below w.heap.size w w') : AMem w0 B l v w' :=
  have hz := h.sz
  ⟨hb.os.trans h.os, hb.tape.trans h.tape, hb.output.trans h.output, Nat.le_trans h.sz hb.size, Nat.le_trans h.size hb.size,
    fun k h1 h2 => (hb.block k (by omega)).trans (h.fx k h1 h2), (hb.block (B + 3) (by omega)).trans h.lb, own_keep h.own hb⟩
theorem AMem.app {w0 w w' : World} {B s : Nat} {l : List Nat} {v v' : Value} (h : AMem w0 B l v w) (hg : w.grownBy w' v.ownBlock)
    (hown : w'.ownsRow (B + 5) 3 1 v' (l.length + 1) (ints (nz l) ++ [.int .i64 s])) : AMem w0 B (l ++ [s]) v' (w'.setCell ⟨B + 3, 0, none⟩ v') := by
  have hz := h.sz
  have hlt := h.own.lt
  have hne : ∀ k, k < B + 5 → some k ≠ v.ownBlock := fun k hk he => by have := (hlt k he.symm).1; omega
  have hlt' := hown.lt
  refine ⟨hg.os.trans h.os, hg.tape.trans h.tape, hg.output.trans h.output, ?_, ?_, fun k h1 h2 => ?_, ?_, ?_⟩
  · have := hg.size; simp; omega
  · have := hg.size; have := h.size; simp; omega
  · rw [Below.heap_setCell _ _ _ _ (by simp; omega), hg.block k (by omega) (hne k h1)]
    exact h.fx k h1 h2
  · refine one_setCell (v := v) ?_
    rw [hg.block (B + 3) (by omega) (hne _ (by omega))]
    exact h.lb
  · have := ownsRow_setCell_other hown (a := ⟨B + 3, 0, none⟩) (fun he => by have := (hlt' _ he).1; simp at this) v'
    rw [nz_snoc, ints_append, List.length_append]
    exact this
theorem AMem.sblock {w0 w w' : World} {B : Nat} {l : List Nat} {v : Value} (h : AMem w0 B l v w) (hg : w.grownBy w' v.ownBlock) : w'.heap[B + 3]? = some (.cells #[v] 22 (0, 0)) := by
  have hz := h.sz
  rw [hg.block (B + 3) (by omega) (fun he => by have := (h.own.lt _ he.symm).1; omega)]
  exact h.lb
theorem AMem.sfree {w0 w w' : World} {B : Nat} {l : List Nat} {v : Value} (h : AMem w0 B l v w) (hg : w.grownBy w' v.ownBlock) : w'.frozen? ⟨B + 3, 0, none⟩ = false := free_of_one (h.sblock hg)
theorem AMem.scell {w0 w w' : World} {B : Nat} {l : List Nat} {v : Value} (h : AMem w0 B l v w) (hg : w.grownBy w' v.ownBlock) : w'.cell? ⟨B + 3, 0, none⟩ = some v := cell_of_one (h.sblock hg)
theorem AMem.kcell {w0 w w' : World} {B k o : Nat} {l : List Nat} {v u : Value} (h : AMem w0 B l v w) (hg : w.grownBy w' v.ownBlock) (hk : k < B + 5) (hne : k ≠ B + 3) (hc : w0.cell? ⟨k, o, none⟩ = some u) : w'.cell? ⟨k, o, none⟩ = some u := by
  have hz := h.sz
  refine (World.cell?_of_block (hg.block k (by omega) (fun he => ?_))).trans (h.cell hk hne hc)
  have := (h.own.lt _ he.symm).1
  omega
theorem AMem.form {w0 w : World} {B : Nat} {l : List Nat} {v : Value} (h : AMem w0 B l v w) (hl : 0 < l.length) : ∃ g c, v = .slice (some ⟨g, 0, none⟩) l.length c ∧ l.length ≤ c := by
  rcases h.own.2 with ⟨h2, h3⟩ | ⟨g', cap, cur, hv, _, _, h4, _⟩
  · omega
  · exact ⟨g', cap, hv, h4⟩
theorem AMem.cut {w0 w : World} {B g c i : Nat} {l : List Nat} (h : AMem w0 B l (.slice (some ⟨g, 0, none⟩) l.length c) w) (hi : i ≤ l.length) :
    AMem w0 B (l.take i) (.slice (some ⟨g, 0, none⟩) i c) (w.setCell ⟨B + 3, 0, none⟩ (.slice (some ⟨g, 0, none⟩) i c)) := by
  have hz := h.sz
  refine ⟨h.os, h.tape, h.output, by simp; omega, by simp; exact h.size, fun k h1 h2 => ?_, one_setCell h.lb, ?_⟩
  · rw [Below.heap_setCell _ _ _ _ (by simp; omega)]
    exact h.fx k h1 h2
  · have hown : w.ownsRow (B + 5) 3 1 (.slice (some ⟨g, 0, none⟩) i c) (l.take i).length (ints (nz (l.take i))) := by
      obtain ⟨h1, h2⟩ := h.own
      have hl : (l.take i).length = i := by rw [List.length_take]; omega
      rw [hl]
      refine ⟨by simp [ints, nz]; omega, ?_⟩
      rcases h2 with ⟨h2, _⟩ | ⟨g', cap, cur, hv, hg, hh, h3, h4, h5, h6⟩
      · cases h2
      · injection hv with e1 e2 e3
        injection e1 with e1
        injection e1 with e1
        subst e1; subst e3
        refine Or.inr ⟨g, c, cur, rfl, hg, hh, by omega, h4, h5, ?_⟩
        have : cur.toList.take (i * 1) = (cur.toList.take (l.length * 1)).take i := by rw [List.take_take]; congr 1; omega
        rw [this, h6]
        simp [ints, nz, List.map_take]
    refine ownsRow_setCell_other hown (a := ⟨B + 3, 0, none⟩) (fun he => ?_) _
    have := (hown.lt _ he).1
    simp at this
theorem AMem.at {w0 w : World} {B : Nat} {l : List Nat} {v : Value} (h : AMem w0 B l v w) (hl : 0 < l.length) :
    ∃ g c, v = .slice (some ⟨g, 0, none⟩) l.length c ∧ B + 5 ≤ g ∧ g < w.heap.size ∧ ∀ j, j < l.length → w.cell? ⟨g, j, none⟩ = some (.int .i64 (l.getD j 0 : Nat)) := by
  obtain ⟨g, c, rfl, hg, hgl⟩ := h.own.form hl
  refine ⟨g, c, rfl, hg, hgl, fun j hj => ?_⟩
  have := own_int h.own (Below.refl _ w) hj
  rw [this, nz_get hj]
theorem AMem.val {w0 w : World} {B : Nat} {l : List Nat} {v : Value} (h : AMem w0 B l v w) : ∃ A c, v = .slice A l.length c := by
  rcases h.own.2 with ⟨h2, h3⟩ | ⟨g', cap, cur, hv, _⟩
  · exact ⟨none, 0, by rw [h2, h3]⟩
  · exact ⟨_, cap, hv⟩
/-- No copy before the copy k has the scribe s and is apart from the next one. -/
def Free (ap : Nat → Nat → Bool) (l : List Nat) (s k : Nat) : Prop := ∀ j, j < l.length → j < k → l.getD j 0 = s → ap l.length j = false
theorem free_0 {ap : Nat → Nat → Bool} {l : List Nat} {s : Nat} : Free ap l s 0 := fun _ _ h => by omega
theorem free_s {ap : Nat → Nat → Bool} {l : List Nat} {s k : Nat} (h : Free ap l s k) (h2 : l.getD k 0 = s → ap l.length k = false) : Free ap l s (k + 1) := fun j h3 h4 h5 => by
  by_cases e : j = k
  · subst e; exact h2 h5
  · exact h j h3 (by omega) h5
def NoneTo (ap : Nat → Nat → Bool) (S f : Nat) (l : List Nat) (s : Nat) : Prop := ∀ u, u < s → stp1 ap S f l u = none
theorem noneTo_s {ap : Nat → Nat → Bool} {S f s : Nat} {l : List Nat} (h : NoneTo ap S f l s) (h2 : stp1 ap S f l s = none) : NoneTo ap S f l (s + 1) := fun u hu => by
  by_cases e : u = s
  · rw [e]; exact h2
  · exact h u (by omega)
set_option maxRecDepth 100000 in
set_option maxHeartbeats 4000000 in
theorem next_any (N S B : Nat) (ap : Nat → Nat → Bool) (hN : N ≤ 8) (hS : S ≤ 8) (w0 : World) (hf : AFix N S B ap w0) : ∀ (f : Nat) (x : Int) (l : List Nat) (v : Value) (w : World), x = nxt l → l.length + f = N → nxt l ≤ l.length → AMem w0 B l v w →
    Calls Try.prog 88 #[.int .i64 x, .pointer (some ⟨B + 3, 0, none⟩), .pointer (some ⟨B + 1, 0, none⟩), .pointer (some ⟨B + 2, 0, none⟩), .pointer (some ⟨B, 0, none⟩), .pointer (some ⟨B + 4, 0, none⟩)] w
      fun e w' => e = .returned (.bool (dfs ap S f l).isSome) ∧ ∃ v', AMem w0 B ((dfs ap S f l).getD l) v' w' := by
  intro f
  induction f with
  | zero =>
    rintro _ l v w rfl hl hx hm
    obtain ⟨A, c, rfl⟩ := hm.val
    have p3 := hm.lcell
    have p1 := hm.cell (by omega) (by omega) hf.n_
    have hd : decide ((l.length : Int) = N) = true := by simp; omega
    have HM := hid hm; have HF := hid hf
    clear hm hf hx
    go_enter Try.func88, Try.ntmps88
    go_wp2_with fail
    go_step3
    go_wp2_with fail
    try rw [Exit.noGoto_ret]
    go_ret
    exact ⟨rfl, _, HM.out⟩
  | succ f ih =>
    rintro _ l v w rfl hl hx hm
    have hd : decide ((l.length : Int) = N) = false := by simp; omega
    obtain ⟨A, c, rfl⟩ := hm.val
    have p3 := hm.lcell
    have p1 := hm.cell (by omega) (by omega) hf.n_
    have HM := hid hm; have HF := hid hf; have IH := hid ih
    clear hm hf ih
    go_enter Try.func88, Try.ntmps88
    go_wp2_with fail
    go_step3
    go_wp2_with fail
    go_step3
    go_wp2_with fail
    go_loopw [9] (fun i wr => ∃ s : Nat, i = .int .i64 s ∧ s ≤ min S (nxt l + 1) ∧ Hid (NoneTo ap S f l s) ∧ ∃ v', Hid (AMem w0 B l v' wr)) (fun i _ => 20 - (intOf i).toNat)
    case atStart => exact ⟨0, rfl, by omega, fun u hu => by omega, _, HM.out⟩
    case round =>
      obtain ⟨s, rfl, hs, hE, v', HM2⟩ := hrel
      clear p1 p3 hd
      obtain ⟨wo, rfl⟩ : ∃ wo : World, wo = wr := ⟨_, rfl⟩
      have p2 := HM2.out.cell (by omega) (by omega) HF.out.s_
      obtain ⟨A2, c2, rfl⟩ := HM2.out.val
      have p3 := HM2.out.lcell
      by_cases hlt : s < min S (nxt l + 1)
      · have d1 : decide ((s : Int) < S) = true := by simp; omega
        have d2 : decide ((s : Int) ≤ nxt l) = true := by simp; omega
        go_wp2_with fail
        clear d1 d2
        go_loopw [29] (fun i wi => ∃ k : Nat, i = .int .i64 k ∧ k ≤ l.length ∧ Hid (Free ap l s k) ∧ ∃ q, wi = wo.drewN q) (fun i _ => 9 - (intOf i).toNat)
        case atStart => exact ⟨0, rfl, by omega, free_0, 0, rfl⟩
        case round =>
          obtain ⟨k, rfl, hk, hC, q, rfl⟩ := hrel
          by_cases hkn : k < l.length
          · obtain ⟨g, c3, hv, hg1, hg2, hcs⟩ := HM2.out.at (by omega)
            injection hv with e1 _ e3
            subst e1; subst e3
            have p4 := hcs k hkn
            have p5 := HM2.out.cell (by omega) (by omega) (HF.out.ap_ l.length k (by omega) (by omega))
            clear hcs
            obtain ⟨x, hxk⟩ : ∃ x, l.getD k 0 = x := ⟨_, rfl⟩
            rw [hxk] at p4
            have Hxk := hid hxk
            clear hxk
            cases ha : ap l.length k with
            | true =>
              rw [ha] at p5
              have Ha := hid ha
              clear ha
              by_cases heq : x = s
              · go_wp2_with fail
                go_roundw
                case rel => exact ⟨s + 1, by go_num, by omega, noneTo_s hE.out (by rw [stp1, clash_of hkn (Hxk.out.trans heq) Ha.out]; rfl), _, HM2.out.below (below_drewN (Below.refl _ _) _)⟩
                case measure => simp [intOf]; omega
              · go_wp2_with fail
                go_roundw
                case rel => exact ⟨_, _, _, ⟨k + 1, by go_num, by omega, free_s hC.out (fun h => absurd (Hxk.out.symm.trans h) heq), _, rfl⟩, rfl, rfl, rfl⟩
                case measure => simp [intOf]; omega
            | false =>
              rw [ha] at p5
              have Ha := hid ha
              clear ha
              by_cases heq : x = s
              · go_wp2_with fail
                go_roundw
                case rel => exact ⟨k + 1, by go_num, by omega, free_s hC.out (fun _ => Ha.out), _, rfl⟩
                case measure => simp [intOf]; omega
              · go_wp2_with fail
                go_roundw
                case rel => exact ⟨_, _, _, ⟨k + 1, by go_num, by omega, free_s hC.out (fun _ => Ha.out), _, rfl⟩, rfl, rfl, rfl⟩
                case measure => simp [intOf]; omega
          · obtain rfl : k = l.length := by omega
            have hcl : clash ap l s = false := clash_no fun j hj he => hC.out j hj hj he
            have Hcl := hid hcl
            clear hcl
            obtain ⟨w2, hw2⟩ : ∃ w2, w2 = wo.drewN q := ⟨_, rfl⟩
            have hm2 : AMem w0 B l (.slice A2 l.length c2) w2 := by rw [hw2]; exact HM2.out.below (below_drewN (Below.refl _ _) _)
            rw [← hw2]
            have p4 := hm2.lcell
            have HM3 := hid hm2
            clear hw2 hm2 p2 p3
            have hown2 := (HM3.out.own.alloc (.cells #[.int .i64 s] 3))
            have HA := hid (HM3.out.below ((Below.refl _ _).alloc (Nat.le_refl _) (.cells #[.int .i64 s] 3)))
            cases hdd : dfs ap S f (l ++ [s]) with
            | some r =>
              have HC : Hid (∀ (x : Int) v w, x = nxt (l ++ [s]) → AMem w0 B (l ++ [s]) v w → Calls Try.prog 88 #[.int .i64 x, .pointer (some ⟨B + 3, 0, none⟩), .pointer (some ⟨B + 1, 0, none⟩), .pointer (some ⟨B + 2, 0, none⟩), .pointer (some ⟨B, 0, none⟩), .pointer (some ⟨B + 4, 0, none⟩)] w
                  fun e w' => e = .returned (.bool true) ∧ ∃ v', AMem w0 B r v' w') := fun x v w h1 h2 => by
                have := IH.out x (l ++ [s]) v w h1 (by simp; omega) (by rw [nxt_snoc]; simp; omega) h2
                rw [hdd] at this
                exact this
              have HR := hid (dfs_some (ap := ap) (S := S) (f := f) (l := l) (r := r) hE.out hlt (by rw [stp1, Hcl.out]; exact hdd))
              clear hdd
              go_wp2_with (first | (at_builtin; refine app_one rfl (.tmp 45) (.tmp 47) Try.underlying22 Try.infoInt rfl (by decide) rfl (B + 5) _ _ _ rfl hown2 ⟨w2.heap.size, 0, none⟩ (.int .i64 s) rfl (cell_new1 _ _ _) rfl (by omega) (by have := HM3.out.sz; simp; omega) ?_; intro v3 w3 hown3 hgrow; obtain ⟨g3, c3, rfl, hg3, hgl3⟩ := hown3.form (by omega); have HM4 := hid (AMem.app HA.out hgrow hown3); have p5 := AMem.sfree HA.out hgrow; have p6 := AMem.scell HA.out hgrow; have p7 := AMem.kcell HA.out hgrow (by omega) (by omega) HF.out.nx) | (go_at_call 88; refine (HC.out _ _ _ (by rw [nxt_snoc]; omega) HM4.out).mono ?_; rintro e w5 ⟨rfl, v5, hm5⟩; have HM5 := hid hm5))
              all_goals
                try rw [Exit.noGoto_ret]
                go_ret
                exact ⟨by rw [HR.out]; rfl, _, by rw [HR.out]; exact HM5.out⟩
            | none =>
              have HC : Hid (∀ (x : Int) v w, x = nxt (l ++ [s]) → AMem w0 B (l ++ [s]) v w → Calls Try.prog 88 #[.int .i64 x, .pointer (some ⟨B + 3, 0, none⟩), .pointer (some ⟨B + 1, 0, none⟩), .pointer (some ⟨B + 2, 0, none⟩), .pointer (some ⟨B, 0, none⟩), .pointer (some ⟨B + 4, 0, none⟩)] w
                  fun e w' => e = .returned (.bool false) ∧ ∃ v', AMem w0 B (l ++ [s]) v' w') := fun x v w h1 h2 => by
                have := IH.out x (l ++ [s]) v w h1 (by simp; omega) (by rw [nxt_snoc]; simp; omega) h2
                rw [hdd] at this
                exact this
              have HR := hid (show stp1 ap S f l s = none by rw [stp1, Hcl.out]; exact hdd)
              clear hdd
              go_wp2_with (first | (at_builtin; refine app_one rfl (.tmp 45) (.tmp 47) Try.underlying22 Try.infoInt rfl (by decide) rfl (B + 5) _ _ _ rfl hown2 ⟨w2.heap.size, 0, none⟩ (.int .i64 s) rfl (cell_new1 _ _ _) rfl (by omega) (by have := HM3.out.sz; simp; omega) ?_; intro v3 w3 hown3 hgrow; obtain ⟨g3, c3, rfl, hg3, hgl3⟩ := hown3.form (by omega); have HM4 := hid (AMem.app HA.out hgrow hown3); have p5 := AMem.sfree HA.out hgrow; have p6 := AMem.scell HA.out hgrow; have p7 := AMem.kcell HA.out hgrow (by omega) (by omega) HF.out.nx) | (go_at_call 88; refine (HC.out _ _ _ (by rw [nxt_snoc]; omega) HM4.out).mono ?_; rintro e w5 ⟨rfl, v5, hm5⟩; obtain ⟨g5, c5, rfl, hc5⟩ := hm5.form (by simp); have p8 := hm5.lcell; have p9 := hm5.lfree; have HM5 := hid hm5; have hc6 : l.length ≤ c5 := by (simp at hc5; omega)))
              all_goals
                have HM6 : Hid (AMem w0 B l (.slice (some ⟨g5, 0, none⟩) l.length c5) (w5.setCell ⟨B + 3, 0, none⟩ (.slice (some ⟨g5, 0, none⟩) l.length c5))) := by
                  have := HM5.out.cut (i := l.length) (by simp)
                  rwa [List.take_left] at this
                refine ⟨⟨s + 1, by go_num, by omega, noneTo_s hE.out HR.out, _, HM6.out⟩, ?_⟩
                simp [intOf]
                omega
      · have HR := hid (dfs_none (ap := ap) (S := S) (f := f) (l := l) fun t ht => hE.out t (by omega))
        by_cases hS2 : s < S
        · have hn2 : ¬ s ≤ nxt l := by omega
          go_wp2_with fail
          try rw [Exit.noGoto_ret]
          go_ret
          exact ⟨by rw [HR.out]; rfl, _, by rw [HR.out]; exact HM2.out⟩
        · go_wp2_with fail
          try rw [Exit.noGoto_ret]
          go_ret
          exact ⟨by rw [HR.out]; rfl, _, by rw [HR.out]; exact HM2.out⟩
end Go.Proofs.Ytoljnbbhoeloeaa
