/- WALK: the sort of the variants. -/
import Derived.Test.YtaoddenadfmdbaaStab
import Derived.Test.YtaoddenadfmdbaaBaseC
import Derived.Shelf.SlSortCmp.KitK
import Derived.Shelf.SlLaysF0
namespace Go.Proofs.Ytaoddenadfmdbaa
open Go.RowKit Go.Shelf Go.Lib Go.Sort
/-- The numbers of the sort's types and functions here. -/
def Try.lIns_ren : Go.Shelf.Ren := ⟨fun | 20 => 45 | n => n, fun | 24 => 51 | 22 => 40 | 3 => 3 | 25 => 68 | 4 => 4 | 0 => 0 | n => n, fun | n => n⟩
theorem Try.lIns : Go.Proofs.SlLaysF0.n20 Try.prog Try.lIns_ren where
  mixed := by kernel_rfl
  f20 := ⟨Try.f45.name, by decide, Try.func45.trans (congrArg some (by kernel_rfl))⟩
  t0 := Try.underlying0
  a0 := Try.isAgg0
  z0 := Try.sizeOf0
  v0 := Try.zeroValue0
  t3 := Try.underlying3
  a3 := Try.isAgg3
  z3 := Try.sizeOf3
  v3 := Try.zeroValue3
  t4 := Try.underlying4
  a4 := Try.isAgg4
  z4 := Try.sizeOf4
  v4 := Try.zeroValue4
  t22 := Try.underlying40
  a22 := Try.isAgg40
  z22 := Try.sizeOf40
  v22 := Try.zeroValue40
  t25 := Try.underlying68
  a25 := Try.isAgg68
  z25 := Try.sizeOf68
  v25 := Try.zeroValue68
def cfV (x y : Vb) : Int := kv x - kv y
theorem ltOf_cfV : ltOf cfV = ltV := by
  funext x y
  simp only [ltOf, cfV, ltV]
  congr 1
  exact propext ⟨fun h => by omega, fun h => by omega⟩
theorem cmp_closure (x y : Vb) (W : World) : Calls Try.prog 19 #[.agg (encV x).toArray, .agg (encV y).toArray] W fun e w' => e = .returned (.int .i64 (cfV x y)) ∧ ∃ q os', w' = grow (W.drewN q) os' := by
  obtain ⟨⟨a, b, A, n, c, l⟩, hx1, hx2⟩ := x
  obtain ⟨⟨a', b', A', n', c', l'⟩, hy1, hy2⟩ := y
  simp only [encV, cfV, kv] at *
  have hw : IntKind.i64.wrap (a - a') = a - a' := IntWalk.i64_in _ (by omega)
  go_enter Try.func19, Try.ntmps19
  go_wp2
  go_ret
  exact ⟨rfl, 0, _, by rw [alloc_eq_grow, alloc_eq_grow, grow_grow]; rfl⟩
theorem cmp_lays (blk off size : Nat) (w : World) : CmpLays Try.prog 19 #[] encV 3 cfV blk off size w := fun _ _ _ _ x y => cmp_closure x y _
theorem encV_one (x : Vb) (v : Value) (hv : v ∈ encV x) : v.oneCell' = true := by
  simp [encV] at hv; rcases hv with rfl | rfl | rfl <;> rfl
theorem ins_any (blk off cap a b : Nat) (d : Array Vb) (w : World) (hH : HoldsK encV 3 w blk off d) (hblk : blk < w.heap.size) (hab : a ≤ b) (hb : b ≤ d.size) (hsz : d.size < 4611686018427387904) :
    Calls Try.prog 45 #[.slice (some ⟨blk, off, none⟩) d.size cap, .int .i64 a, .int .i64 b, .func (.func 19) #[] #[]] w fun e w' =>
      e = .returned (.tuple #[]) ∧ ∃ n os, w' = sortWorldK encV 3 w blk off n (Sort.insertionSort ltV d a b) os := by
  have eg : ∀ args w, (callFunc 19 args).run Try.prog w = .ok (.enter 19 args) w := enters_of Try.func19 (by kernel_rfl) rfl
  have hcon := AnyQ.insertionSortCmpFunc Try.lIns 3 Try.isAgg51 Try.sizeOf51 encV (fun _ => rfl) encV_one cfV 19 #[] blk off cap a b d w eg (cmp_lays _ _ _ _) hH hblk hab hb hsz
  rw [ltOf_cfV] at hcon
  exact hcon
set_option maxRecDepth 100000 in
set_option maxHeartbeats 1000000 in
/-- The stable sort of fewer than 20 elements. -/
theorem stable_small (blk cap : Nat) (d : Array Vb) (w : World) (hH : HoldsK encV 3 w blk 0 d) (hblk : blk < w.heap.size) (hsz : d.size < 20) :
    Calls Try.prog 30 #[.slice (some ⟨blk, 0, none⟩) d.size cap, .int .i64 d.size, .func (.func 19) #[] #[]] w fun e w' =>
      e = .returned (.tuple #[]) ∧ ∃ d', Stab d d' ∧ SWK encV 3 w blk 0 d' w' := by
  have hcon := ins_any blk 0 cap 0 d.size d w hH hblk (Nat.zero_le _) (Nat.le_refl _) (by omega)
  have hst : Stab d (Sort.insertionSort ltV d 0 d.size) := ⟨keep_ins d _ _ (Nat.le_refl _), sorted_ins d _ _ (Nat.zero_le _) (Nat.le_refl _)⟩
  generalize Sort.insertionSort ltV d 0 d.size = r at hcon hst
  have Hst := hid hst; clear hst hH
  obtain ⟨n, hn⟩ : ∃ n, n = d.size := ⟨_, rfl⟩
  rw [← hn] at hcon hsz ⊢
  have Hcon := hid hcon; clear hcon hn
  have h1 : decide ((20 : Int) ≤ (n : Int)) = false := by simp; omega
  have h2 : decide ((20 : Int) < (n : Int)) = false := by simp; omega
  go_enter Try.func30, Try.ntmps30
  go_wp2_with fail
  go_loopw [7, 8] (fun a b wr => a = .int .i64 0 ∧ b = .int .i64 20 ∧ wr = w) (fun _ _ _ => 0)
  case atStart => exact ⟨rfl, rfl, rfl⟩
  case round =>
    obtain ⟨rfl, rfl, hwr⟩ := hrel
    have hwr2 := hwr.symm
    subst hwr2
    clear hwr
    go_wp2_with (go_at_call 45; refine Hcon.out.mono ?_; rintro e w' ⟨rfl, n', os, rfl⟩)
    go_loopw [6] (fun a wr => a = .int .i64 20 ∧ wr = sortWorldK encV 3 w blk 0 n' r os) (fun _ _ => 0)
    case atStart => exact ⟨rfl, rfl⟩
    case round =>
      obtain ⟨rfl, rfl⟩ := hrel
      go_wp2_with fail
      go_end0
      exact ⟨rfl, r, Hst.out, n', os, rfl⟩
end Go.Proofs.Ytaoddenadfmdbaa
