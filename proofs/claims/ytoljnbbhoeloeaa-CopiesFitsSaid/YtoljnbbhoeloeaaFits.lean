/- WALK: the law CopiesFits. -/
import Derived.Test.YtoljnbbhoeloeaaRowsI
import Derived.Test.YtoljnbbhoeloeaaBloc
import Derived.Test.YtoljnbbhoeloeaaWorksW
namespace Go.Proofs.Ytoljnbbhoeloeaa
open Go.RowKit
set_option maxRecDepth 100000 in
set_option maxHeartbeats 1000000 in
theorem fits_law (bs : List Bk) (x y : Int) (A : Option Addr) (c : Nat) (w : World) (r : Bks w w.heap.size A bs) :
    Calls Try.prog 11 #[.slice A bs.length c, .int .i64 x, .int .i64 y] w fun e w' => e = .returned (.bool true) ∧ Below w.heap.size w w' := by
  have R := fun W (hb : Below w.heap.size w W) => (r.below hb).more hb.size
  have C1 := hid fun W hb => checkBlocks_any bs A c W (R W hb)
  have C2 := hid fun W hb => ref_checkBlocks_any bs A c W (R W hb)
  have F1 := hid fun W hb => fit_any bs x y A c W (R W hb)
  have F2 := hid fun W hb => ref_fitW_any bs x y A c W (R W hb)
  have N1 := hid fun W hb => count_any bs A c W (R W hb)
  have N2 := hid fun W hb => ref_count_any bs A c W (R W hb)
  clear R r
  generalize blksErr bs = e0 at *
  generalize fitIs bs x y = p at *
  generalize fitErr bs x y = e1 at *
  generalize cntRows bs = n1 at *
  generalize bs.length = N at *
  have fin : Hid (∀ W W', Below w.heap.size w W → Below W.heap.size W W' → Below w.heap.size w W') := fun W W' h h' => h.trans (h'.mono h.size)
  have H0 : Hid (Below w.heap.size w w) := Below.refl _ _
  go_enter Try.func11, Try.ntmps11
  go_wp2_with (first | (go_at_call 32; refine (C1.out _ H0.out).mono ?_; rintro e w1 ⟨rfl, hb1⟩; have H1 := hid (fin.out _ _ H0.out hb1); clear hb1 C1) | (go_at_call 33; refine (C2.out _ H1.out).mono ?_; rintro e w2 ⟨rfl, hb2⟩; have H2 := hid (fin.out _ _ H1.out hb2); clear hb2 C2) | (go_at_call 34; refine (F1.out _ H2.out).mono ?_; rintro e w3 ⟨rfl, hb3⟩; have H3 := hid (fin.out _ _ H2.out hb3); clear hb3 F1) | (go_at_call 35; refine (F2.out _ H3.out).mono ?_; rintro e w4 ⟨rfl, hb4⟩; have H4 := hid (fin.out _ _ H3.out hb4); clear hb4 F2) | (go_at_call 36; refine (N1.out _ H4.out).mono ?_; rintro e w5 ⟨rfl, hb5⟩; have H5 := hid (fin.out _ _ H4.out hb5); clear hb5 N1) | (go_at_call 37; refine (N2.out _ H5.out).mono ?_; rintro e w6 ⟨rfl, hb6⟩; have H6 := hid (fin.out _ _ H5.out hb6); clear hb6 N2))
  refine (works_any _).mono ?_
  rintro e w7 ⟨rfl, hb7⟩
  have H7 := hid (fin.out _ _ H6.out hb7); clear hb7
  go_wp2_with fail
  go_ret
  exact ⟨rfl, H7.out⟩
end Go.Proofs.Ytoljnbbhoeloeaa
