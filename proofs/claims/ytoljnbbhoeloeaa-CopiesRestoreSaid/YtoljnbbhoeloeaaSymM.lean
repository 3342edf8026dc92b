/- WALK: symMerge, whole. -/
import Derived.Test.YtoljnbbhoeloeaaSymA
import Derived.Test.YtoljnbbhoeloeaaSymB
import Derived.Test.YtoljnbbhoeloeaaSymC1
import Derived.Test.YtoljnbbhoeloeaaSymC2
namespace Go.Proofs.Ytoljnbbhoeloeaa
open Go.RowKit Go.Shelf Go.Lib Go.Sort
theorem symMerge_any : ∀ (N blk off cap a m b : Nat) (d0 d : Array Vb) (w0 w : World), b - a ≤ N → RowK encV 3 w0 blk off d0 → CmpLays Try.prog 50 #[] encV 3 cfV blk off d0.size w0 → d0.size = d.size → SWK encV 3 w0 blk off d w → a < m → m < b → b ≤ d.size → d.size < 4611686018427387904 → Srt a m d → Srt m b d →
    Calls Try.prog 92 #[.slice (some ⟨blk, off, none⟩) d.size cap, .int .i64 a, .int .i64 m, .int .i64 b, .func (.func 50) #[] #[]] w fun e w' => e = .returned (.tuple #[]) ∧ ∃ d', Merged a b d d' ∧ SWK encV 3 w0 blk off d' w' := by
  intro N
  induction N with
  | zero => intro blk off cap a m b d0 d w0 w hN R hC hs S ham hmb; omega
  | succ N ih =>
    intro blk off cap a m b d0 d w0 w hN R hC hs S ham hmb hb hsz hL hR
    by_cases hA : m = a + 1
    · exact symMerge_a blk off cap a m b d0 d w0 w R hC hs S ham hmb hb hsz hL hR hA
    · by_cases hB : b = m + 1
      · exact symMerge_b blk off cap a m b d0 d w0 w R hC hs S ham hmb hb hsz hL hR hA hB
      · have hI : Hid (∀ (x y z : Nat) (dk : Array Vb) (W : World), dk.size = d.size → SWK encV 3 w0 blk off dk W → z - x ≤ N → x < y → y < z → z ≤ d.size → Srt x y dk → Srt y z dk → Calls Try.prog 92 #[.slice (some ⟨blk, off, none⟩) d.size cap, .int .i64 x, .int .i64 y, .int .i64 z, .func (.func 50) #[] #[]] W fun e w' => e = .returned (.tuple #[]) ∧ ∃ d', Merged x z dk d' ∧ SWK encV 3 w0 blk off d' w') := fun x y z dk W h1 h2 h3 h4 h5 h6 h7 h8 => by
          have := ih blk off cap x y z d0 dk w0 W h3 R hC (by omega) h2 h4 h5 (by omega) (by omega) h7 h8
          rwa [h1] at this
        have hR2 : Hid (∀ (x y z : Nat) (dk : Array Vb) (W : World), dk.size = d.size → SWK encV 3 w0 blk off dk W → x < y → y < z → z ≤ d.size → Calls Try.prog 93 #[.slice (some ⟨blk, off, none⟩) d.size cap, .int .i64 x, .int .i64 y, .int .i64 z, .func (.func 50) #[] #[]] W fun e w' => e = .returned (.tuple #[]) ∧ ∃ d', Rot x y z dk d' ∧ SWK encV 3 w0 blk off d' w') := fun x y z dk W h1 h2 h3 h4 h5 => by
          have := rotate_any blk off cap x y z d0 dk w0 W R (by omega) h2 h3 h4 (by omega) (by omega) (.func (.func 50) #[] #[])
          rwa [h1] at this
        by_cases hmm : (a + b) / 2 < m
        · exact symMerge_c1 blk off cap a m b d0 d w0 w R hC hs S ham hmb hb hsz hL hR N hN hI hR2 hA hB hmm
        · exact symMerge_c2 blk off cap a m b d0 d w0 w R hC hs S ham hmb hb hsz hL hR N hN hI hR2 hA hB hmm
end Go.Proofs.Ytoljnbbhoeloeaa
