/- WALK: copies.stretches. -/
import Derived.Test.YtaoddenadfmdbaaAlnW
import Derived.Test.YtaoddenadfmdbaaStr
import Derived.Test.YtaoddenadfmdbaaItems
namespace Go.Proofs.Ytaoddenadfmdbaa
open Go.RowKit

theorem flatP_get (P : List (Int × Int)) : ∀ k (hk : k < P.length), (flatP P)[k * 2]? = some (.int .i64 P[k].1) ∧ (flatP P)[k * 2 + 1]? = some (.int .i64 P[k].2) := by
  induction P with
  | nil => intro k hk; simp at hk
  | cons p P ih =>
    intro k hk
    cases k with
    | zero => exact ⟨rfl, rfl⟩
    | succ k =>
      have := ih k (by simpa using hk)
      rw [show (k + 1) * 2 = k * 2 + 2 by omega, show k * 2 + 2 + 1 = k * 2 + 1 + 2 by omega]
      simpa [flatP] using this
theorem Try.infoStretch : (Try.prog.info? 66).map (fun i => (i.zero, i.size, i.bytes)) = some (some (.agg #[.int .i64 0, .int .i64 0, .slice none 0 0]), 3, 40) := by kernel_rfl
/-- The elements in memory are the stretches of the model. -/
def Enc (es : List En) (out : List Item) : Prop := es.map (fun t => (t.1, t.2.1, t.2.2.2)) = out.map (fun x => ((x.1 : Int), ((x.1 + x.2.1 : Nat) : Int), x.2.2))
/-- What the loop holds. -/
inductive SRel (w : World) (base : Nat) (e : TypeId) (v : Value) (s : SS) : Bool → Prop where
  | shut (es : List En) (h : SAll w base e v es) (henc : Enc es s.cl) (hop : s.op = none) : SRel w base e v s false
  | opn (es : List En) (t : En) (M : Nat) (x : Item) (h : SOpen w base M e v es t) (henc : Enc es s.cl) (hop : s.op = some x) (ht : t.1 = (x.1 : Int) ∧ t.2.1 = ((x.1 + x.2.1 : Nat) : Int) ∧ t.2.2.2 = x.2.2) : SRel w base e v s true
theorem Enc.snoc {es : List En} {out : List Item} {t : En} {x : Item} (h : Enc es out) (h1 : t.1 = (x.1 : Int)) (h2 : t.2.1 = ((x.1 + x.2.1 : Nat) : Int)) (h3 : t.2.2.2 = x.2.2) : Enc (es ++ [t]) (out ++ [x]) := by
  unfold Enc at *
  rw [List.map_append, List.map_append, h, List.map_singleton, List.map_singleton, h1, h2, h3]
theorem Enc.len {es : List En} {out : List Item} (h : Enc es out) : es.length = out.length := by have := congrArg List.length h; simpa using this
theorem SRel.agree {w : World} {base : Nat} {e : TypeId} {v : Value} {s : SS} {ob : Bool} (h : SRel w base e v s ob) (a b : List Int) {p : Int × Int} (hp : Agree a b p) : SRel w base e v (s.step a b p) false := by
  have e1 : s.step a b p = ⟨s.at_ + 1, none, s.out⟩ := if_pos hp
  rw [e1]
  cases h with
  | shut es h henc hop => exact .shut es h (by simp only [SS.out, hop]; exact henc) rfl
  | opn es t M x h henc hop ht => exact .shut (es ++ [t]) h.shut (by simp only [SS.out, hop]; exact henc.snoc ht.1 ht.2.1 ht.2.2) rfl
theorem SRel.alloc {w : World} {base : Nat} {e : TypeId} {v : Value} {s : SS} {ob : Bool} (h : SRel w base e v s ob) (o : Obj) : SRel (w.alloc o) base e v s ob := by
  cases h with
  | shut es h henc hop => exact .shut es (h.alloc o) henc hop
  | opn es t M x h henc hop ht => exact .opn es t M x (h.alloc o) henc hop ht
theorem SRel.drewN {w : World} {base : Nat} {e : TypeId} {v : Value} {s : SS} {ob : Bool} (h : SRel w base e v s ob) (n : Nat) : SRel (w.drewN n) base e v s ob := by
  cases h with
  | shut es h henc hop => exact .shut es (h.drewN n) henc hop
  | opn es t M x h henc hop ht => exact .opn es t M x (h.drewN n) henc hop ht
set_option maxRecDepth 100000 in
set_option maxHeartbeats 1000000 in
theorem stretches_any (a b : List Int) (Aa Ab : Option Addr) (ca cb : Nat) (ha : a.length ≤ 60) (hb : b.length ≤ 60) (w : World) (ra : Rd w w.heap.size Aa a) (rb : Rd w w.heap.size Ab b) :
    Calls Try.prog 17 #[.slice Aa a.length ca, .slice Ab b.length cb] w fun e w' => ∃ v es, e = .returned v ∧ SAll w' w.heap.size 66 v es ∧ Enc es (strs a b) ∧ Below w.heap.size w w' := by
  go_enter Try.func17, Try.ntmps17
  go_wp2_with fail
  refine (align_any a b Aa Ab ca cb ha hb w ra rb).mono ?_
  rintro e w1 ⟨pv, rfl, hown, hb1⟩
  have hz1 := hb1.size
  have hpl := pairs_len a b
  have ra1 := ra.below hb1
  have rb1 := rb.below hb1
  obtain ⟨la, hla⟩ : ∃ la, la = a.length := ⟨_, rfl⟩
  obtain ⟨lb, hlb⟩ : ∃ lb, lb = b.length := ⟨_, rfl⟩
  rw [← hla, ← hlb]
  rw [← hla] at ha hpl
  rw [← hlb] at hb hpl
  have Hla := hid hla; have Hlb := hid hlb; clear hla hlb ra rb
  obtain ⟨np, hnp⟩ : ∃ np, np = (pairsOf a b).length := ⟨_, rfl⟩
  rw [← hnp] at hown hpl
  have Hown := hid hown; have Hnp := hid hnp; have Hb1 := hid hb1; clear hown hnp hb1
  obtain ⟨A, c, rfl⟩ := own_slice Hown.out
  go_wp2_with fail
  go_loopw [4, 7, 8, 20] (fun v at_ o i wr => ∃ (k : Nat) (ob : Bool), k ≤ np ∧ i = .int .i64 k ∧ at_ = .int .i64 (stAt a b k).at_ ∧ o = .bool ob ∧ SRel wr w1.heap.size 66 v (stAt a b k) ob ∧ Below w1.heap.size w1 wr) (fun _ _ _ i _ => np - (intOf i).toNat)
  case atStart => exact ⟨0, false, by omega, rfl, rfl, rfl, .shut [] (SAll.nil _ _ _ (Nat.le_refl _)) rfl rfl, Below.refl _ _⟩
  case round =>
    obtain ⟨k, ob, hk, rfl, rfl, rfl, hS, hbr⟩ := hrel
    have Hbd := hid (stAt_bd a b k (by rw [← Hnp.out]; exact hk))
    have hbd1 : (stAt a b k).at_ ≤ 120 := by have := Hbd.out.at_; omega
    by_cases hkn : k < np
    · obtain ⟨l, hl⟩ : ∃ l, l = ((pairsOf a b)[k]'(by rw [← Hnp.out]; exact hkn)).1 := ⟨_, rfl⟩
      obtain ⟨r, hr⟩ : ∃ r, r = ((pairsOf a b)[k]'(by rw [← Hnp.out]; exact hkn)).2 := ⟨_, rfl⟩
      have hstep : stAt a b (k + 1) = (stAt a b k).step a b (l, r) := by rw [stAt_succ (by rw [← Hnp.out]; exact hkn), hl, hr]
      obtain ⟨⟨hok1, hok2, hok3⟩⟩ : OkPair a.length b.length (l, r) ∧ True := ⟨by have := pairs_ok a b _ (List.getElem_mem (by rw [← Hnp.out]; exact hkn : k < (pairsOf a b).length)); rw [hl, hr]; exact this, trivial⟩
      obtain ⟨gp, cp, hpv, hgp1, hgp2⟩ := Hown.out.form (by omega)
      injection hpv with hA _ hc
      subst hA; subst hc
      obtain ⟨f1, f2⟩ := flatP_get (pairsOf a b) k (by rw [← Hnp.out]; exact hkn)
      have c1 : wr.cell? ⟨gp, k * 2, none⟩ = some (.int .i64 l) := (hbr.cell (p := ⟨gp, k * 2, none⟩) hgp2).trans ((Hown.out.cellAt (k * 2) (by omega)).trans (by rw [hl]; exact f1))
      have c2 : wr.cell? ⟨gp, k * 2 + 1, none⟩ = some (.int .i64 r) := (hbr.cell (p := ⟨gp, k * 2 + 1, none⟩) hgp2).trans ((Hown.out.cellAt (k * 2 + 1) (by omega)).trans (by rw [hr]; exact f2))
      clear f1 f2 hl hr
      have Hstep := hid hstep; clear hstep
      rw [← Hla.out] at hok1
      rw [← Hlb.out] at hok2
      obtain ⟨at_, hat⟩ : ∃ at_, at_ = (stAt a b k).at_ := ⟨_, rfl⟩
      rw [← hat] at hbd1 ⊢
      have Hat := hid hat; have Hbr := hid hbr; clear hat hbr
      have HS := hid hS; clear hS
      cases HS.out with
      | shut es h henc hop =>
        have hel : es.length ≤ 120 := by have := henc.len; have h2 := Hbd.out.out; simp only [SS.out, hop] at h2; omega
        have H := hid h; have Henc := hid henc; have Hop := hid hop; clear h henc hop
        by_cases h0l : 0 ≤ l
        · obtain ⟨li, rfl⟩ : ∃ li : Nat, l = li := ⟨l.toNat, by omega⟩
          have hli : li < la := by omega
          have g1 : (0 : Int) ≤ (li : Int) := by omega
          have g3 : (li : Int) < la := by omega
          by_cases h0r : 0 ≤ r
          · obtain ⟨ri, rfl⟩ : ∃ ri : Nat, r = ri := ⟨r.toNat, by omega⟩
            have hri : ri < lb := by omega
            have g2 : (0 : Int) ≤ (ri : Int) := by omega
            have g4 : (ri : Int) < lb := by omega
            obtain ⟨ba, oa, rfl, hba, hca⟩ := ra1.at (by rw [← Hla.out]; omega)
            obtain ⟨bb, ob_, rfl, hbb, hcb⟩ := rb1.at (by rw [← Hlb.out]; omega)
            have p5 : wr.cell? ⟨ba, oa + li, none⟩ = some (.int .i64 (nth a li)) := (Hbr.out.cell (p := ⟨ba, oa + li, none⟩) (by show ba < _; omega)).trans (hca li (by rw [← Hla.out]; exact hli))
            have p6 : wr.cell? ⟨bb, ob_ + ri, none⟩ = some (.int .i64 (nth b ri)) := (Hbr.out.cell (p := ⟨bb, ob_ + ri, none⟩) (by show bb < _; omega)).trans (hcb ri (by rw [← Hlb.out]; exact hri))
            have hba2 : ba < wr.heap.size := by have := Hbr.out.size; omega
            have hbb2 : bb < wr.heap.size := by have := Hbr.out.size; omega
            clear hca hcb ra1 rb1 hok1 hok2 hok3 h0l h0r
            by_cases heq : nth a li = nth b ri
            · have he : (nth a li == nth b ri) = true := by simp [heq]
              have hag : Agree a b ((li : Int), (ri : Int)) := ⟨g1, g2, by simpa [getI, nth] using heq⟩
              have Hag := hid hag; clear hag heq
              go_wp2_with fail
              go_quiet (fail)
              go_wp2_with fail
              go_roundw
              case rel => exact ⟨k + 1, false, by omega, by go_num, by rw [Hstep.out, SS.step, if_pos Hag.out]; simp [Hat.out], rfl, by rw [Hstep.out]; exact ((HS.out.alloc _).drewN _).agree a b Hag.out, below_dr (Hbr.out.alloc Hbr.out.size _) _⟩
              case measure => simp [intOf]; omega
            · have he : (nth a li == nth b ri) = false := by simp [heq]
              have hag : ¬ Agree a b ((li : Int), (ri : Int)) := fun h => heq (by simpa [getI, nth] using h.2.2)
              have Hag := hid hag; clear hag heq
              go_wp2_with fail
              go_quiet (fail)
              clear he p5
              have hS2 := (H.out.alloc (.cells #[.int .i64 (li : Int), .int .i64 (ri : Int)] 81)).drewN nq
              have HS2 := hid hS2; clear hS2
              go_wp2_with (at_builtin; go_must (refine app_elem rfl (.tmp 49) (.tmp 53) Try.underlying63 Try.infoStretch rfl (by decide) (by decide) rfl w1.heap.size _ es.length _ rfl (HS2.out.own.alloc _) ⟨wr.heap.size + 1, 0, none⟩ [.int .i64 at_, .int .i64 at_, .slice none 0 0] rfl rfl (cell_news_at _ _ _ (by simp)) (by simp [Value.oneCell']) (by omega) (by have := HS2.out.hB; simp at this ⊢; omega) ?_); go_must (intro v' w2 hown3 hgrow); go_must (have hP := (HS2.out.alloc _).push (by decide) at_ at_ hown3 hgrow); go_must (obtain ⟨g, cg, hv, hg1, hg2⟩ := hP.form); go_must (rw [hv] at hP); go_must (obtain ⟨e1, e2, e3, e4⟩ := hP.cells); go_must (have e5 := e4 (es.length * 3 + 1)); go_must (have e6 := e4 (es.length * 3 + 2)); go_must (have k1 : w2.cell? ⟨wr.heap.size, 0, none⟩ = some (.int .i64 (li : Int)) := hgrow.cell (by simp [go_sem]) (fun e => by have := (H.out.own.lt wr.heap.size e.symm).2; omega)); go_must (have k2 : w2.cell? ⟨wr.heap.size, 1, none⟩ = some (.int .i64 (ri : Int)) := hgrow.cell (by simp [go_sem]) (fun e => by have := (H.out.own.lt wr.heap.size e.symm).2; omega)); go_must (have hbp : Below w1.heap.size w1 w2 := below_app ((below_dr (Hbr.out.alloc Hbr.out.size _) _).alloc (by have := Hbr.out.size; simp; omega) _) (HS2.out.own.alloc _) hgrow (Nat.le_refl _) (by have := Hbr.out.size; simp; omega)); go_must (have hne1 : g ≠ wr.heap.size := own_ne_obj (c := #[.int .i64 (li : Int), .int .i64 (ri : Int)]) (f := (0, 0)) (e' := 81) hP.own rfl ((hgrow.block wr.heap.size (by simp; omega) (fun e => by have := (H.out.own.lt wr.heap.size e.symm).2; omega)).trans ((Below.heap_alloc _ _ _ (by simp)).trans (heap_alloc_new wr _))) (by decide)); go_must (have hgw : wr.heap.size < w2.heap.size := by (have := hgrow.size; simp at this; omega)); go_must (have q6 : w2.cell? ⟨bb, ob_ + ri, none⟩ = some (.int .i64 (nth b ri)) := cell_grown (HS2.out.own.alloc _) hgrow (by show bb < w1.heap.size; omega) ((World.cell?_alloc_past _ _ _ (by simp; omega)).trans ((World.cell?_alloc_past _ _ _ (by omega)).trans p6)); have hbb3 : bb < w2.heap.size := by (have := hgrow.size; simp at this; omega)); go_must (rw [hv]); go_must (have HP := hid hP; have Hbp := hid hbp); go_must (clear hP hown3 hgrow hv e4 hbp))
              have HP3 := hid (HP.out.setTo (by decide) ((at_ : Int) + 1))
              have HbE := hid (Hbp.out.setCell (p := ⟨g, es.length * 3 + 1, none⟩) hg1 (.int .i64 ((at_ : Int) + 1)))
              have hcur : (stAt a b k).cur = (at_, 0, []) := by simp [SS.cur, Hop.out, Hat.out]
              have Hcur := hid hcur; clear hcur
              go_region_law (refine step_one rfl (.tmp 76) (.tmp 82) Try.underlying26 Try.infoInt rfl (by decide) rfl w2.heap.size _ _ _ rfl ((HP3.out.alloc _).last) ⟨w2.heap.size, 0, none⟩ (.int .i64 (nth b ri)) (by simp [Act.eval]) (cell_new1_at _ _ _ (by simp)) rfl (by first | (simp; done) | exact Hsl.out) (by have := HP3.out.hM; first | (simp at this ⊢; done) | (simp at this ⊢; omega)) ?_; intro sv' w4 hown4 hgrow4; obtain ⟨A4, c4, hsv⟩ := own_slice hown4; rw [hsv]; rw [hsv] at hown4; clear hsv; obtain ⟨z1, z2, z3⟩ := ((HP3.out.alloc _).drew).grown (by decide) hgrow4; simp only at z1)
              all_goals
                go_wp2_with fail
                go_roundw
                case rel => exact ⟨k + 1, true, by omega, by go_num, by rw [Hstep.out, SS.step, if_neg Hag.out]; simp only; rw [← Hat.out, show one (li : Int) = 1 from by simp [one]]; go_num, rfl, by rw [Hstep.out, SS.step, if_neg Hag.out]; exact .opn es _ w2.heap.size _ (((HP3.out.alloc _).drew).putSlice (by decide) hown4 hgrow4) Henc.out rfl ⟨by simp only [Hcur.out], by simp only [Hcur.out]; rw [show one (li : Int) = 1 from by simp [one]]; go_num, by simp only [Hcur.out]; simp [sgn, getI, nth]⟩, (below_app ((HbE.out.alloc HbE.out.size _).drew) ((HP3.out.alloc _).drew.last) hgrow4 (Nat.le_trans HP3.out.hB (Nat.le_refl _)) (by have := HbE.out.size; simp at this ⊢; omega)).setCell hg1 _⟩
                case measure => simp [intOf]; omega
          · obtain rfl : r = -1 := by omega
            have hag : ¬ Agree a b ((li : Int), (-1)) := fun h => by have := h.2.1; simp at this
            have Hag := hid hag; clear hag
            clear ra1 rb1 hok1 hok2 hok3 h0l h0r
            have hd : decide ((0 : Int) ≤ -1) = false := rfl
            go_wp2_with fail
            go_quiet (fail)
            have hS2 := (H.out.alloc (.cells #[.int .i64 (li : Int), .int .i64 (-1)] 81)).drewN nq
            have HS2 := hid hS2; clear hS2
            go_wp2_with (at_builtin; go_must (refine app_elem rfl (.tmp 49) (.tmp 53) Try.underlying63 Try.infoStretch rfl (by decide) (by decide) rfl w1.heap.size _ es.length _ rfl (HS2.out.own.alloc _) ⟨wr.heap.size + 1, 0, none⟩ [.int .i64 at_, .int .i64 at_, .slice none 0 0] rfl rfl (cell_news_at _ _ _ (by simp)) (by simp [Value.oneCell']) (by omega) (by have := HS2.out.hB; simp at this ⊢; omega) ?_); go_must (intro v' w2 hown3 hgrow); go_must (have hP := (HS2.out.alloc _).push (by decide) at_ at_ hown3 hgrow); go_must (obtain ⟨g, cg, hv, hg1, hg2⟩ := hP.form); go_must (rw [hv] at hP); go_must (obtain ⟨e1, e2, e3, e4⟩ := hP.cells); go_must (have e5 := e4 (es.length * 3 + 1)); go_must (have e6 := e4 (es.length * 3 + 2)); go_must (have k1 : w2.cell? ⟨wr.heap.size, 0, none⟩ = some (.int .i64 (li : Int)) := hgrow.cell (by simp [go_sem]) (fun e => by have := (H.out.own.lt wr.heap.size e.symm).2; omega)); go_must (have k2 : w2.cell? ⟨wr.heap.size, 1, none⟩ = some (.int .i64 (-1)) := hgrow.cell (by simp [go_sem]) (fun e => by have := (H.out.own.lt wr.heap.size e.symm).2; omega)); go_must (have hbp : Below w1.heap.size w1 w2 := below_app ((below_dr (Hbr.out.alloc Hbr.out.size _) _).alloc (by have := Hbr.out.size; simp; omega) _) (HS2.out.own.alloc _) hgrow (Nat.le_refl _) (by have := Hbr.out.size; simp; omega)); go_must (have hne1 : g ≠ wr.heap.size := own_ne_obj (c := #[.int .i64 (li : Int), .int .i64 (-1)]) (f := (0, 0)) (e' := 81) hP.own rfl ((hgrow.block wr.heap.size (by simp; omega) (fun e => by have := (H.out.own.lt wr.heap.size e.symm).2; omega)).trans ((Below.heap_alloc _ _ _ (by simp)).trans (heap_alloc_new wr _))) (by decide)); go_must (have hgw : wr.heap.size < w2.heap.size := by (have := hgrow.size; simp at this; omega)); go_must (rw [hv]); go_must (have HP := hid hP; have Hbp := hid hbp); go_must (clear hP hown3 hgrow hv e4 hbp))
            have HP3 := hid (HP.out.setTo (by decide) ((at_ : Int) + 1))
            have HbE := hid (Hbp.out.setCell (p := ⟨g, es.length * 3 + 1, none⟩) hg1 (.int .i64 ((at_ : Int) + 1)))
            have hcur : (stAt a b k).cur = (at_, 0, []) := by simp [SS.cur, Hop.out, Hat.out]
            have Hcur := hid hcur; clear hcur
            go_wp2_with fail
            go_roundw
            case rel => exact ⟨k + 1, true, by omega, by go_num, by rw [Hstep.out, SS.step, if_neg Hag.out]; simp only; rw [← Hat.out, show one (li : Int) = 1 from by simp [one]]; go_num, rfl, by rw [Hstep.out, SS.step, if_neg Hag.out]; exact .opn es _ w2.heap.size _ HP3.out Henc.out rfl ⟨by simp only [Hcur.out], by simp only [Hcur.out]; rw [show one (li : Int) = 1 from by simp [one]]; go_num, by simp only [Hcur.out]; simp [sgn]⟩, HbE.out⟩
            case measure => simp [intOf]; omega
        · obtain rfl : l = -1 := by omega
          obtain ⟨ri, rfl⟩ : ∃ ri : Nat, r = ri := ⟨r.toNat, by omega⟩
          have hri : ri < lb := by omega
          have g2 : (0 : Int) ≤ (ri : Int) := by omega
          have g4 : (ri : Int) < lb := by omega
          obtain ⟨bb, ob_, rfl, hbb, hcb⟩ := rb1.at (by rw [← Hlb.out]; omega)
          have p6 : wr.cell? ⟨bb, ob_ + ri, none⟩ = some (.int .i64 (nth b ri)) := (Hbr.out.cell (p := ⟨bb, ob_ + ri, none⟩) (by show bb < _; omega)).trans (hcb ri (by rw [← Hlb.out]; exact hri))
          have hbb2 : bb < wr.heap.size := by have := Hbr.out.size; omega
          have hag : ¬ Agree a b ((-1), (ri : Int)) := fun h => by have := h.1; simp at this
          have Hag := hid hag; clear hag
          clear hcb ra1 rb1 hok1 hok2 hok3 h0l
          go_wp2_with fail
          go_quiet (fail)
          have hS2 := (H.out.alloc (.cells #[.int .i64 (-1), .int .i64 (ri : Int)] 81)).drewN nq
          have HS2 := hid hS2; clear hS2
          go_wp2_with (at_builtin; go_must (refine app_elem rfl (.tmp 49) (.tmp 53) Try.underlying63 Try.infoStretch rfl (by decide) (by decide) rfl w1.heap.size _ es.length _ rfl (HS2.out.own.alloc _) ⟨wr.heap.size + 1, 0, none⟩ [.int .i64 at_, .int .i64 at_, .slice none 0 0] rfl rfl (cell_news_at _ _ _ (by simp)) (by simp [Value.oneCell']) (by omega) (by have := HS2.out.hB; simp at this ⊢; omega) ?_); go_must (intro v' w2 hown3 hgrow); go_must (have hP := (HS2.out.alloc _).push (by decide) at_ at_ hown3 hgrow); go_must (obtain ⟨g, cg, hv, hg1, hg2⟩ := hP.form); go_must (rw [hv] at hP); go_must (obtain ⟨e1, e2, e3, e4⟩ := hP.cells); go_must (have e5 := e4 (es.length * 3 + 1)); go_must (have e6 := e4 (es.length * 3 + 2)); go_must (have k1 : w2.cell? ⟨wr.heap.size, 0, none⟩ = some (.int .i64 (-1)) := hgrow.cell (by simp [go_sem]) (fun e => by have := (H.out.own.lt wr.heap.size e.symm).2; omega)); go_must (have k2 : w2.cell? ⟨wr.heap.size, 1, none⟩ = some (.int .i64 (ri : Int)) := hgrow.cell (by simp [go_sem]) (fun e => by have := (H.out.own.lt wr.heap.size e.symm).2; omega)); go_must (have hbp : Below w1.heap.size w1 w2 := below_app ((below_dr (Hbr.out.alloc Hbr.out.size _) _).alloc (by have := Hbr.out.size; simp; omega) _) (HS2.out.own.alloc _) hgrow (Nat.le_refl _) (by have := Hbr.out.size; simp; omega)); go_must (have hne1 : g ≠ wr.heap.size := own_ne_obj (c := #[.int .i64 (-1), .int .i64 (ri : Int)]) (f := (0, 0)) (e' := 81) hP.own rfl ((hgrow.block wr.heap.size (by simp; omega) (fun e => by have := (H.out.own.lt wr.heap.size e.symm).2; omega)).trans ((Below.heap_alloc _ _ _ (by simp)).trans (heap_alloc_new wr _))) (by decide)); go_must (have hgw : wr.heap.size < w2.heap.size := by (have := hgrow.size; simp at this; omega)); go_must (have q6 : w2.cell? ⟨bb, ob_ + ri, none⟩ = some (.int .i64 (nth b ri)) := cell_grown (HS2.out.own.alloc _) hgrow (by show bb < w1.heap.size; omega) ((World.cell?_alloc_past _ _ _ (by simp; omega)).trans ((World.cell?_alloc_past _ _ _ (by omega)).trans p6)); have hbb3 : bb < w2.heap.size := by (have := hgrow.size; simp at this; omega)); go_must (rw [hv]); go_must (have HP := hid hP; have Hbp := hid hbp); go_must (clear hP hown3 hgrow hv e4 hbp))
          have HP3 := HP
          have HbE := Hbp
          have hcur : (stAt a b k).cur = (at_, 0, []) := by simp [SS.cur, Hop.out, Hat.out]
          have Hcur := hid hcur; clear hcur
          go_region_law (refine step_one rfl (.tmp 76) (.tmp 82) Try.underlying26 Try.infoInt rfl (by decide) rfl w2.heap.size _ _ _ rfl ((HP3.out.alloc _).last) ⟨w2.heap.size, 0, none⟩ (.int .i64 (nth b ri)) (by simp [Act.eval]) (cell_new1_at _ _ _ (by simp)) rfl (by first | (simp; done) | exact Hsl.out) (by have := HP3.out.hM; first | (simp at this ⊢; done) | (simp at this ⊢; omega)) ?_; intro sv' w4 hown4 hgrow4; obtain ⟨A4, c4, hsv⟩ := own_slice hown4; rw [hsv]; rw [hsv] at hown4; clear hsv; obtain ⟨z1, z2, z3⟩ := ((HP3.out.alloc _).drew).grown (by decide) hgrow4; simp only at z1)
          all_goals
            go_wp2_with fail
            go_roundw
            case rel => exact ⟨k + 1, true, by omega, by go_num, by rw [Hstep.out, SS.step, if_neg Hag.out]; simp only; rw [← Hat.out, show one (-1) = 0 from by rfl]; rfl, rfl, by rw [Hstep.out, SS.step, if_neg Hag.out]; exact .opn es _ w2.heap.size _ (((HP3.out.alloc _).drew).putSlice (by decide) hown4 hgrow4) Henc.out rfl ⟨by simp only [Hcur.out], by simp only [Hcur.out]; rw [show one (-1) = 0 from rfl]; rfl, by simp only [Hcur.out]; simp [sgn, getI, nth]⟩, (below_app ((HbE.out.alloc HbE.out.size _).drew) ((HP3.out.alloc _).drew.last) hgrow4 (Nat.le_trans HP3.out.hB (Nat.le_refl _)) (by have := HbE.out.size; simp at this ⊢; omega)).setCell hg1 _⟩
            case measure => simp [intOf]; omega
      | opn es t M x h henc hop ht =>
        obtain ⟨t1, t2, sv, sg⟩ := t
        obtain ⟨ht1, ht2, ht3⟩ := ht
        simp only at ht1 ht2 ht3
        obtain ⟨As, cs, hsv⟩ := own_slice h.last
        simp only at hsv
        subst hsv
        obtain ⟨g, cg, rfl, hg1, hg2⟩ := h.form
        obtain ⟨e1, e2, e3, e4⟩ := h.cells
        simp only at e1 e2 e3
        have e5 := e4 (es.length * 3 + 1)
        have e6 := e4 (es.length * 3 + 2)
        have hel : es.length ≤ 120 := by have := henc.len; have h2 := Hbd.out.out; simp only [SS.out, hop, List.length_append] at h2; omega
        have hsl : sg.length ≤ 1000000000000 := by rw [ht3]; have h2 := Hbd.out.item x (by simp [SS.out, hop]); omega
        have hxat : x.1 + x.2.1 = at_ := by rw [Hat.out]; exact Hbd.out.op x hop
        have H := hid h; have Henc := hid henc; have Hop := hid hop; have Ht1 := hid ht1; have Ht2 := hid ht2; have Ht3 := hid ht3; have Hsl := hid hsl; have Hxat := hid hxat
        clear h henc hop ht1 ht2 ht3 hsl hxat e4
        by_cases h0l : 0 ≤ l
        · obtain ⟨li, rfl⟩ : ∃ li : Nat, l = li := ⟨l.toNat, by omega⟩
          have hli : li < la := by omega
          have g1 : (0 : Int) ≤ (li : Int) := by omega
          have g3 : (li : Int) < la := by omega
          by_cases h0r : 0 ≤ r
          · obtain ⟨ri, rfl⟩ : ∃ ri : Nat, r = ri := ⟨r.toNat, by omega⟩
            have hri : ri < lb := by omega
            have g2 : (0 : Int) ≤ (ri : Int) := by omega
            have g4 : (ri : Int) < lb := by omega
            obtain ⟨ba, oa, rfl, hba, hca⟩ := ra1.at (by rw [← Hla.out]; omega)
            obtain ⟨bb, ob_, rfl, hbb, hcb⟩ := rb1.at (by rw [← Hlb.out]; omega)
            have p5 : wr.cell? ⟨ba, oa + li, none⟩ = some (.int .i64 (nth a li)) := (Hbr.out.cell (p := ⟨ba, oa + li, none⟩) (by show ba < _; omega)).trans (hca li (by rw [← Hla.out]; exact hli))
            have p6 : wr.cell? ⟨bb, ob_ + ri, none⟩ = some (.int .i64 (nth b ri)) := (Hbr.out.cell (p := ⟨bb, ob_ + ri, none⟩) (by show bb < _; omega)).trans (hcb ri (by rw [← Hlb.out]; exact hri))
            have hba2 : ba < wr.heap.size := by have := Hbr.out.size; omega
            have hbb2 : bb < wr.heap.size := by have := Hbr.out.size; omega
            clear hca hcb ra1 rb1 hok1 hok2 hok3 h0l h0r
            by_cases heq : nth a li = nth b ri
            · have he : (nth a li == nth b ri) = true := by simp [heq]
              have hag : Agree a b ((li : Int), (ri : Int)) := ⟨g1, g2, by simpa [getI, nth] using heq⟩
              have Hag := hid hag; clear hag heq
              go_wp2_with fail
              go_quiet (fail)
              go_wp2_with fail
              go_roundw
              case rel => exact ⟨k + 1, false, by omega, by go_num, by rw [Hstep.out, SS.step, if_pos Hag.out]; simp [Hat.out], rfl, by rw [Hstep.out]; exact ((HS.out.alloc _).drewN _).agree a b Hag.out, below_dr (Hbr.out.alloc Hbr.out.size _) _⟩
              case measure => simp [intOf]; omega
            · have he : (nth a li == nth b ri) = false := by simp [heq]
              have hag : ¬ Agree a b ((li : Int), (ri : Int)) := fun h => heq (by simpa [getI, nth] using h.2.2)
              have Hag := hid hag; clear hag heq
              go_wp2_with fail
              go_quiet (fail)
              clear he p5
              have hS2 := (H.out.alloc (.cells #[.int .i64 (li : Int), .int .i64 (ri : Int)] 81)).drewN nq
              have HS2 := hid hS2; clear hS2
              have Hbp := hid (below_dr (Hbr.out.alloc Hbr.out.size (.cells #[.int .i64 (li : Int), .int .i64 (ri : Int)] 81)) nq)
              go_wp2_with fail
              have HP3 := hid (HS2.out.setTo (by decide) ((at_ : Int) + 1))
              have HbE := hid (Hbp.out.setCell (p := ⟨g, es.length * 3 + 1, none⟩) hg1 (.int .i64 ((at_ : Int) + 1)))
              have hcur : (stAt a b k).cur = x := by simp [SS.cur, Hop.out]
              have Hcur := hid hcur; clear hcur
              go_region_law (refine step_one rfl (.tmp 76) (.tmp 82) Try.underlying26 Try.infoInt rfl (by decide) rfl M _ _ _ rfl ((HP3.out.alloc _).last) ⟨wr.heap.size + 1, 0, none⟩ (.int .i64 (nth b ri)) (by simp [Act.eval]) (cell_new1_at _ _ _ (by simp)) rfl (by first | (simp; done) | exact Hsl.out) (by have := HP3.out.hM; first | (simp at this ⊢; done) | (simp at this ⊢; omega)) ?_; intro sv' w4 hown4 hgrow4; obtain ⟨A4, c4, hsv⟩ := own_slice hown4; rw [hsv]; rw [hsv] at hown4; clear hsv; obtain ⟨z1, z2, z3⟩ := ((HP3.out.alloc _).drew).grown (by decide) hgrow4; simp only at z1)
              all_goals
                go_wp2_with fail
                go_roundw
                case rel => exact ⟨k + 1, true, by omega, by go_num, by rw [Hstep.out, SS.step, if_neg Hag.out]; simp only; rw [← Hat.out, show one (li : Int) = 1 from by simp [one]]; go_num, rfl, by rw [Hstep.out, SS.step, if_neg Hag.out]; exact .opn es _ M _ (((HP3.out.alloc _).drew).putSlice (by decide) hown4 hgrow4) Henc.out rfl ⟨by simp only [Hcur.out]; exact Ht1.out, by simp only [Hcur.out]; rw [show one (li : Int) = 1 from by simp [one]]; have := Hxat.out; go_num, by simp only [Hcur.out]; rw [Ht3.out]; simp [sgn, getI, nth]⟩, (below_app ((HbE.out.alloc HbE.out.size _).drew) ((HP3.out.alloc _).drew.last) hgrow4 (Nat.le_trans HP3.out.hB (Nat.le_refl _)) (by have := HbE.out.size; simp at this ⊢; omega)).setCell hg1 _⟩
                case measure => simp [intOf]; omega
          · obtain rfl : r = -1 := by omega
            have hag : ¬ Agree a b ((li : Int), (-1)) := fun h => by have := h.2.1; simp at this
            have Hag := hid hag; clear hag
            clear ra1 rb1 hok1 hok2 hok3 h0l h0r
            have hd : decide ((0 : Int) ≤ -1) = false := rfl
            go_wp2_with fail
            go_quiet (fail)
            have hS2 := (H.out.alloc (.cells #[.int .i64 (li : Int), .int .i64 (-1)] 81)).drewN nq
            have HS2 := hid hS2; clear hS2
            have Hbp := hid (below_dr (Hbr.out.alloc Hbr.out.size (.cells #[.int .i64 (li : Int), .int .i64 (-1)] 81)) nq)
            go_wp2_with fail
            have HP3 := hid (HS2.out.setTo (by decide) ((at_ : Int) + 1))
            have HbE := hid (Hbp.out.setCell (p := ⟨g, es.length * 3 + 1, none⟩) hg1 (.int .i64 ((at_ : Int) + 1)))
            have hcur : (stAt a b k).cur = x := by simp [SS.cur, Hop.out]
            have Hcur := hid hcur; clear hcur
            go_wp2_with fail
            go_roundw
            case rel => exact ⟨k + 1, true, by omega, by go_num, by rw [Hstep.out, SS.step, if_neg Hag.out]; simp only; rw [← Hat.out, show one (li : Int) = 1 from by simp [one]]; go_num, rfl, by rw [Hstep.out, SS.step, if_neg Hag.out]; exact .opn es _ M _ HP3.out Henc.out rfl ⟨by simp only [Hcur.out]; exact Ht1.out, by simp only [Hcur.out]; rw [show one (li : Int) = 1 from by simp [one]]; have := Hxat.out; go_num, by simp only [Hcur.out]; rw [Ht3.out]; simp [sgn]⟩, HbE.out⟩
            case measure => simp [intOf]; omega
        · obtain rfl : l = -1 := by omega
          obtain ⟨ri, rfl⟩ : ∃ ri : Nat, r = ri := ⟨r.toNat, by omega⟩
          have hri : ri < lb := by omega
          have g2 : (0 : Int) ≤ (ri : Int) := by omega
          have g4 : (ri : Int) < lb := by omega
          obtain ⟨bb, ob_, rfl, hbb, hcb⟩ := rb1.at (by rw [← Hlb.out]; omega)
          have p6 : wr.cell? ⟨bb, ob_ + ri, none⟩ = some (.int .i64 (nth b ri)) := (Hbr.out.cell (p := ⟨bb, ob_ + ri, none⟩) (by show bb < _; omega)).trans (hcb ri (by rw [← Hlb.out]; exact hri))
          have hbb2 : bb < wr.heap.size := by have := Hbr.out.size; omega
          have hag : ¬ Agree a b ((-1), (ri : Int)) := fun h => by have := h.1; simp at this
          have Hag := hid hag; clear hag
          clear hcb ra1 rb1 hok1 hok2 hok3 h0l
          go_wp2_with fail
          go_quiet (fail)
          have hS2 := (H.out.alloc (.cells #[.int .i64 (-1), .int .i64 (ri : Int)] 81)).drewN nq
          have HS2 := hid hS2; clear hS2
          have Hbp := hid (below_dr (Hbr.out.alloc Hbr.out.size (.cells #[.int .i64 (-1), .int .i64 (ri : Int)] 81)) nq)
          go_wp2_with fail
          have HP3 := HS2
          have HbE := Hbp
          have hcur : (stAt a b k).cur = x := by simp [SS.cur, Hop.out]
          have Hcur := hid hcur; clear hcur
          go_region_law (refine step_one rfl (.tmp 76) (.tmp 82) Try.underlying26 Try.infoInt rfl (by decide) rfl M _ _ _ rfl ((HP3.out.alloc _).last) ⟨wr.heap.size + 1, 0, none⟩ (.int .i64 (nth b ri)) (by simp [Act.eval]) (cell_new1_at _ _ _ (by simp)) rfl (by first | (simp; done) | exact Hsl.out) (by have := HP3.out.hM; first | (simp at this ⊢; done) | (simp at this ⊢; omega)) ?_; intro sv' w4 hown4 hgrow4; obtain ⟨A4, c4, hsv⟩ := own_slice hown4; rw [hsv]; rw [hsv] at hown4; clear hsv; obtain ⟨z1, z2, z3⟩ := ((HP3.out.alloc _).drew).grown (by decide) hgrow4; simp only at z1)
          all_goals
            go_wp2_with fail
            go_roundw
            case rel => exact ⟨k + 1, true, by omega, by go_num, by rw [Hstep.out, SS.step, if_neg Hag.out]; simp only; rw [← Hat.out, show one (-1) = 0 from by rfl]; rfl, rfl, by rw [Hstep.out, SS.step, if_neg Hag.out]; exact .opn es _ M _ (((HP3.out.alloc _).drew).putSlice (by decide) hown4 hgrow4) Henc.out rfl ⟨by simp only [Hcur.out]; exact Ht1.out, by simp only [Hcur.out]; rw [show one (-1) = 0 from rfl]; exact Ht2.out, by simp only [Hcur.out]; rw [Ht3.out]; simp [sgn, getI, nth]⟩, (below_app ((HbE.out.alloc HbE.out.size _).drew) ((HP3.out.alloc _).drew.last) hgrow4 (Nat.le_trans HP3.out.hB (Nat.le_refl _)) (by have := HbE.out.size; simp at this ⊢; omega)).setCell hg1 _⟩
            case measure => simp [intOf]; omega
    · obtain rfl : k = np := by omega
      go_wp2
      go_ret
      cases hS with
      | shut es h henc hop => exact ⟨_, es, rfl, h.base_ hz1, by rw [strs_eq, ← Hnp.out]; simp only [SS.out, hop]; exact henc, Hb1.out.trans (hbr.mono hz1)⟩
      | opn es t M x h henc hop ht => exact ⟨_, es ++ [t], rfl, h.shut.base_ hz1, by rw [strs_eq, ← Hnp.out]; simp only [SS.out, hop]; exact henc.snoc ht.1 ht.2.1 ht.2.2, Hb1.out.trans (hbr.mono hz1)⟩
end Go.Proofs.Ytaoddenadfmdbaa
