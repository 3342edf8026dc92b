/- WALK: Extent, of the library and of the reference. -/
import Derived.Test.YtaoddenadfmdbaaAlignW
import Derived.Test.YtaoddenadfmdbaaAlnW
import Derived.Test.YtaoddenadfmdbaaStrW
namespace Go.Proofs.Ytaoddenadfmdbaa
open Go.RowKit
/-- How many places the stretch at a place replaces; 1: there is none there. -/
def extR (l : List Item) (at_ : Int) : Int × Int := match l.find? (fun x => decide ((x.1 : Int) = at_)) with | some x => ((x.2.1 : Int), 0) | none => (0, 1)
theorem extR_hit {l : List Item} {at_ : Int} {k : Nat} (hk : k < l.length) (h : ∀ j (hj : j < l.length), j < k → ¬ (l[j].1 : Int) = at_) (hx : (l[k].1 : Int) = at_) : extR l at_ = ((l[k].2.1 : Int), 0) := by
  have h1 : l.find? (fun x => decide ((x.1 : Int) = at_)) = some l[k] := by
    rw [List.find?_eq_some_iff_getElem]
    exact ⟨by simpa using hx, k, hk, rfl, fun j hj => by simpa using h j (by omega) hj⟩
  unfold extR
  rw [h1]
theorem extR_miss {l : List Item} {at_ : Int} (h : ∀ j (hj : j < l.length), ¬ (l[j].1 : Int) = at_) : extR l at_ = (0, 1) := by
  have h1 : l.find? (fun x => decide ((x.1 : Int) = at_)) = none := by
    rw [List.find?_eq_none]
    intro x hx
    obtain ⟨j, hj, rfl⟩ := List.getElem_of_mem hx
    simpa using h j hj
  unfold extR
  rw [h1]
def extV (a b : List Int) (at_ : Int) : Int × Int := if linesErr [a, b] = 0 then extR (strs a b) at_ else (0, linesErr [a, b])
theorem enc_at {es : List En} {out : List Item} (h : Enc es out) {k : Nat} (hk : k < es.length) (hk2 : k < out.length) : es[k].1 = (out[k].1 : Int) ∧ es[k].2.1 = ((out[k].1 + out[k].2.1 : Nat) : Int) ∧ es[k].2.2.2 = out[k].2.2 := by
  have h1 := congrArg (fun x => x[k]?) h
  simp only [List.getElem?_map, List.getElem?_eq_getElem hk, List.getElem?_eq_getElem hk2, Option.map_some, Option.some.injEq, Prod.mk.injEq] at h1
  exact h1
theorem strs_bds (a b : List Int) : ∀ x ∈ strs a b, x.1 ≤ a.length + b.length ∧ x.2.1 ≤ a.length + b.length := by
  have h := stAt_bd a b _ (Nat.le_refl _)
  have h2 := pairs_len a b
  rw [strs_eq]
  exact fun x hx => by have := h.item x hx; omega
set_option maxRecDepth 100000 in
set_option maxHeartbeats 2000000 in
theorem extent_any (a b : List Int) (at_ : Int) (Aa Ab : Option Addr) (ca cb : Nat) (w : World) (ra : Rd w w.heap.size Aa a) (rb : Rd w w.heap.size Ab b) :
    Calls Try.prog 12 #[.slice Aa a.length ca, .slice Ab b.length cb, .int .i64 at_] w fun e w' => e = .returned (.tuple #[.int .i64 (extV a b at_).1, .int .i64 (extV a b at_).2]) ∧ Below w.heap.size w w' := by
  have hck := check_any [(Aa, ca, a), (Ab, cb, b)] (some ⟨w.heap.size, 0, none⟩) 2 (by simp) (w.alloc (.cells #[.slice Aa a.length ca, .slice Ab b.length cb] 26)) (w.heap.size + 1) (Lns.two _ ra rb)
  rw [show sig [(Aa, ca, a), (Ab, cb, b)] = [a, b] from rfl] at hck
  have Hck := hid hck; clear hck
  have Ra := hid ra; have Rb := hid rb; clear ra rb
  by_cases h0 : linesErr [a, b] = 0
  · obtain ⟨ha, hb⟩ := two_ok h0
    have HV := hid (show extV a b at_ = extR (strs a b) at_ from if_pos h0)
    rw [h0] at Hck
    have hbd := strs_bds a b
    have hl := strs_bd a b
    clear h0
    have Hst := hid (fun W (r1 : Rd W W.heap.size Aa a) (r2 : Rd W W.heap.size Ab b) => stretches_any a b Aa Ab ca cb ha hb W r1 r2)
    have Hbd : Hid (∀ x ∈ strs a b, x.1 ≤ 120 ∧ x.2.1 ≤ 120) := fun x hx => by have := hbd x hx; omega
    have Hl := hid (show (strs a b).length ≤ 120 by have := hl.1; omega)
    clear hbd hl
    go_enter Try.func12, Try.ntmps12
    go_wp2_with fail
    refine Hck.out.mono ?_
    rintro e w1 ⟨rfl, q, rfl⟩
    obtain ⟨w1, hw1⟩ : ∃ w1, w1 = ((w.alloc (.cells #[.slice Aa a.length ca, .slice Ab b.length cb] 26)).drewN q) := ⟨_, rfl⟩
    have hb1 : Below w.heap.size w w1 := by rw [hw1]; exact below_drewN ((Below.refl _ _).alloc (Nat.le_refl _) _) _
    rw [← hw1]
    clear hw1
    have Hb1 := hid hb1; clear hb1
    go_wp2_with fail
    refine (Hst.out w1 ((Ra.out.below Hb1.out).more Hb1.out.size) ((Rb.out.below Hb1.out).more Hb1.out.size)).mono ?_
    rintro e w2 ⟨v, es, rfl, hS, henc, hb2⟩
    obtain ⟨A, c, rfl⟩ := own_slice hS.own
    have HB2 := hid (Hb1.out.trans (hb2.mono Hb1.out.size))
    have hlen : es.length ≤ 120 := by have := henc.len; have := Hl.out; omega
    have HS := hid hS; have Henc := hid henc; clear hS henc hb2
    obtain ⟨n, hn⟩ : ∃ n, n = es.length := ⟨_, rfl⟩
    rw [← hn] at hlen ⊢
    have Hn := hid hn; clear hn
    go_wp2_with fail
    go_loopw [22] (fun i wr => ∃ k : Nat, k ≤ n ∧ i = .int .i64 k ∧ Hid (∀ j (hj : j < es.length), j < k → ¬ es[j].1 = at_) ∧ Below w2.heap.size w2 wr) (fun i _ => n - (intOf i).toNat)
    case atStart => exact ⟨0, by omega, rfl, fun j hj h => by omega, Below.refl _ _⟩
    case round =>
      obtain ⟨k, hk, rfl, hE, hbr⟩ := hrel
      have Hbr := hid hbr; clear hbr
      by_cases hkn : k < n
      · have hk1 : k < es.length := by rw [← Hn.out]; exact hkn
        have hk2 : k < (strs a b).length := by rw [← Henc.out.len]; exact hk1
        obtain ⟨g, cg, hv, hg0, hg, q1, q2, q3⟩ := HS.out.at hk1
        injection hv with hA hle hc
        subst hA; subst hc
        clear hle hg0
        have p1 := (Hbr.out.cell (p := ⟨g, k * 3, none⟩) hg).trans q1
        have p2 := (Hbr.out.cell (p := ⟨g, k * 3 + 1, none⟩) hg).trans q2
        have p3 := (Hbr.out.cell (p := ⟨g, k * 3 + 2, none⟩) hg).trans q3
        clear q1 q2 q3
        have hgr : g < wr.heap.size := Nat.lt_of_lt_of_le hg Hbr.out.size
        obtain ⟨A3, c3, hv3⟩ := own_slice (HS.out.cl _ (List.getElem_mem hk1)).1
        rw [hv3] at p3
        obtain ⟨e1, e2, _⟩ := enc_at Henc.out hk1 hk2
        have hx := Hbd.out _ (List.getElem_mem hk2)
        have hhit : es[k].1 = at_ → extV a b at_ = (((strs a b)[k].2.1 : Int), 0) := fun h => by
          rw [HV.out]
          exact extR_hit hk2 (fun j hj hjk => by rw [← (enc_at Henc.out (by rw [Henc.out.len]; exact hj) hj).1]; exact hE.out j _ hjk) (by rw [← e1]; exact h)
        have hnext : ¬ es[k].1 = at_ → ∀ j (hj : j < es.length), j < k + 1 → ¬ es[j].1 = at_ := fun h j hj hjk => by
          rcases Nat.lt_or_ge j k with h2 | h2
          · exact hE.out j hj h2
          · obtain rfl : j = k := by omega
            exact h
        rw [e1] at p1 hhit hnext
        rw [e2, Int.natCast_add] at p2
        have Hhit := hid hhit; have Hnext := hid hnext
        clear hhit hnext e1 e2 hv3 hE
        generalize (strs a b)[k].1 = x1 at *
        generalize (strs a b)[k].2.1 = x2 at *
        generalize es[k].2.2.2.length = n3 at *
        have r1 : IntKind.i64.wrap ((x1 : Int) + (x2 : Int) - (x1 : Int)) = (x2 : Int) := by rw [IntKind.wrap_i64]; omega
        by_cases hat : (x1 : Int) = at_
        · have HX := hid (Hhit.out hat)
          subst hat
          clear Hnext Hhit HV
          go_wp2_with fail
          go_ret2
          exact ⟨by rw [HX.out]; rfl, HB2.out.trans ((Hbr.out.alloc Hbr.out.size _).mono HB2.out.size)⟩
        · have hat2 : ((x1 : Int) == at_) = false := by simpa using hat
          have HX := hid (Hnext.out hat)
          go_wp2_with fail
          go_roundw
          case rel => exact ⟨k + 1, by omega, by go_num, HX.out, Hbr.out.alloc Hbr.out.size _⟩
          case measure => simp [intOf]; omega
      · obtain rfl : k = n := by omega
        have HX := hid (show extV a b at_ = (0, 1) by
          rw [HV.out]
          exact extR_miss fun j hj => by rw [← (enc_at Henc.out (by rw [Henc.out.len]; exact hj) hj).1]; exact hE.out j _ (by rw [Hn.out, Henc.out.len]; exact hj))
        go_wp2_with fail
        go_ret2
        exact ⟨by rw [HX.out]; rfl, HB2.out.trans (Hbr.out.mono HB2.out.size)⟩
  · have HV := hid (show extV a b at_ = (0, linesErr [a, b]) from if_neg h0)
    obtain ⟨er, her⟩ : ∃ er, er = linesErr [a, b] := ⟨_, rfl⟩
    rw [← her] at Hck h0 HV
    have h2 : (er == 0) = false := by simpa using h0
    clear her
    go_enter Try.func12, Try.ntmps12
    go_wp2_with fail
    refine Hck.out.mono ?_
    rintro e w1 ⟨rfl, q, rfl⟩
    go_wp2_with fail
    go_ret2
    exact ⟨by rw [HV.out]; rfl, below_drewN ((Below.refl _ _).alloc (Nat.le_refl _) _) _⟩
end Go.Proofs.Ytaoddenadfmdbaa
