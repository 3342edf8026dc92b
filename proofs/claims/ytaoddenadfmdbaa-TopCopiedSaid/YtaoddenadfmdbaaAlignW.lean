/- WALK: Align, of the library and of the reference. -/
import Derived.Test.YtaoddenadfmdbaaAlnW
import Derived.Test.YtaoddenadfmdbaaCheck
import Derived.Test.YtaoddenadfmdbaaVarW
namespace Go.Proofs.Ytaoddenadfmdbaa
open Go.RowKit
theorem Lns.two {w : World} {A A' : Option Addr} {c c' : Nat} {l l' : List Int} (T : TypeId) (r : Rd w w.heap.size A l) (r' : Rd w w.heap.size A' l') : Lns (w.alloc (.cells #[.slice A l.length c, .slice A' l'.length c'] T)) (w.heap.size + 1) (some ⟨w.heap.size, 0, none⟩) [(A, c, l), (A', c', l')] := by
  refine ⟨⟨rfl, fun _ => ⟨_, rfl, by simp, fun j u hu => ?_⟩⟩, fun t ht => ?_⟩
  · match j with
    | 0 => simp [vals, Ln.val] at hu; subst hu; simp [Addr.add]
    | 1 => simp [vals, Ln.val] at hu; subst hu; simp [Addr.add]
    | j + 2 => simp [vals] at hu
  · rcases List.mem_cons.1 ht with rfl | ht
    · exact (r.below ((Below.refl _ _).alloc (Nat.le_refl _) _)).more (by omega)
    · obtain rfl := List.mem_singleton.1 ht
      exact (r'.below ((Below.refl _ _).alloc (Nat.le_refl _) _)).more (by omega)
def alP (a b : List Int) : List (Int × Int) := if linesErr [a, b] = 0 then pairsOf a b else []
def alC (a b : List Int) : Int := if linesErr [a, b] = 0 then (D a b : Nat) else 0
theorem two_ok {a b : List Int} (h : linesErr [a, b] = 0) : a.length ≤ 60 ∧ b.length ≤ 60 := ⟨lineErr_le (linesErr_all h a (by simp)), lineErr_le (linesErr_all h b (by simp))⟩
set_option maxRecDepth 100000 in
set_option maxHeartbeats 1000000 in
theorem Align_any (a b : List Int) (Aa Ab : Option Addr) (ca cb : Nat) (w : World) (ra : Rd w w.heap.size Aa a) (rb : Rd w w.heap.size Ab b) :
    Calls Try.prog 8 #[.slice Aa a.length ca, .slice Ab b.length cb] w fun e w' => ∃ v, e = .returned (.tuple #[v, .int .i64 (alC a b), .int .i64 (linesErr [a, b])]) ∧
      w'.ownsRow w.heap.size 81 2 v (alP a b).length (flatP (alP a b)) ∧ Below w.heap.size w w' := by
  have hck := check_any [(Aa, ca, a), (Ab, cb, b)] (some ⟨w.heap.size, 0, none⟩) 2 (by simp) (w.alloc (.cells #[.slice Aa a.length ca, .slice Ab b.length cb] 26)) (w.heap.size + 1) (Lns.two _ ra rb)
  rw [show sig [(Aa, ca, a), (Ab, cb, b)] = [a, b] from rfl] at hck
  have Hck := hid hck; clear hck
  have Ra := hid ra; have Rb := hid rb; clear ra rb
  by_cases h0 : linesErr [a, b] = 0
  · obtain ⟨ha, hb⟩ := two_ok h0
    have e1 : alP a b = pairsOf a b := if_pos h0
    have e2 : alC a b = (D a b : Nat) := if_pos h0
    rw [e1, e2]
    rw [h0] at Hck ⊢
    clear e1 e2 h0
    have Hal := hid (fun W (r1 : Rd W W.heap.size Aa a) (r2 : Rd W W.heap.size Ab b) => align_any a b Aa Ab ca cb ha hb W r1 r2)
    go_enter Try.func8, Try.ntmps8
    go_wp2_with fail
    refine Hck.out.mono ?_
    rintro e w1 ⟨rfl, q, rfl⟩
    obtain ⟨w1, hw1⟩ : ∃ w1, w1 = ((w.alloc (.cells #[.slice Aa a.length ca, .slice Ab b.length cb] 26)).drewN q) := ⟨_, rfl⟩
    have hb1 : Below w.heap.size w w1 := by rw [hw1]; exact below_drewN ((Below.refl _ _).alloc (Nat.le_refl _) _) _
    rw [← hw1]
    clear hw1
    have Hb1 := hid hb1; clear hb1
    go_wp2_with fail
    refine (Hal.out w1 ((Ra.out.below Hb1.out).more Hb1.out.size) ((Rb.out.below Hb1.out).more Hb1.out.size)).mono ?_
    rintro e w2 ⟨v, rfl, hown, hb2⟩
    have Hown := hid hown; have Hb2 := hid hb2; clear hown hb2
    go_wp2_with fail
    refine bodyPost_ret (v := .tuple #[v, .int .i64 (D a b : Nat), .int .i64 0]) (by simp [results, Try.results8, go_sem]) rfl ⟨_, rfl, own_base Hown.out Hb1.out.size, Hb1.out.trans (Hb2.out.mono Hb1.out.size)⟩
  · have e1 : alP a b = [] := if_neg h0
    have e2 : alC a b = 0 := if_neg h0
    rw [e1, e2]
    obtain ⟨er, her⟩ : ∃ er, er = linesErr [a, b] := ⟨_, rfl⟩
    rw [← her] at Hck h0 ⊢
    clear e1 e2 her
    go_enter Try.func8, Try.ntmps8
    go_wp2_with fail
    refine Hck.out.mono ?_
    rintro e w1 ⟨rfl, q, rfl⟩
    go_wp2_with fail
    refine bodyPost_ret (v := .tuple #[.slice none 0 0, .int .i64 0, .int .i64 er]) (by simp [results, Try.results8, go_sem]) rfl ⟨_, rfl, World.ownsRow_nil _ _ _ _, below_drewN ((Below.refl _ _).alloc (Nat.le_refl _) _) _⟩
end Go.Proofs.Ytaoddenadfmdbaa
