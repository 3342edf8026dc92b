/- WALK: divide's closure: how long a stretch may be. -/
import Derived.Test.YtaoddenadfmdbaaTbM
import Derived.Test.YtaoddenadfmdbaaEtdW
import Derived.Test.YtaoddenadfmdbaaCall
namespace Go.Proofs.Ytaoddenadfmdbaa
open Go.RowKit Go.Maps
/-- What divide keeps in memory: cells, a line, and the rows of its table from i0 on. -/
structure DvM (cs : List Cl) (l : List Int) (K : Nat) (A2 : Option Addr) (c2 : Nat) (A3 : Option Addr) (c3 : Nat) (i0 : Nat) (W : World) : Prop where
  b2 : W.cell? ⟨K, 0, none⟩ = some (.slice A2 cs.length c2)
  b3 : W.cell? ⟨K + 1, 0, none⟩ = some (.slice A3 l.length c3)
  b4 : W.cell? ⟨K + 3, 0, none⟩ = some (.slice (some ⟨K + 2, 0, none⟩) (cs.length + 1) (cs.length + 1))
  cl : Cls W K A2 cs
  rd : Rd W K A3 l
  kw : K + 4 ≤ W.heap.size
  top : ∃ F : Nat → Value, W.rowIs (K + 2) 44 (cs.length + 1) F ∧ ∀ i, i0 ≤ i → i ≤ cs.length → ∃ (gi : Nat) (f : Nat → Bool), K + 4 ≤ gi ∧ F i = .slice (some ⟨gi, 0, none⟩) (l.length + 1) (l.length + 1) ∧ W.rowIs gi 4 (l.length + 1) (fun p => .bool (f p))
theorem DvM.below {cs : List Cl} {l : List Int} {K : Nat} {A2 : Option Addr} {c2 : Nat} {A3 : Option Addr} {c3 : Nat} {i0 : Nat} {W W' : World} (h : DvM cs l K A2 c2 A3 c3 i0 W) (hb : Below W.heap.size W W') : DvM cs l K A2 c2 A3 c3 i0 W' := by
  have hk := h.kw
  refine ⟨cell_keep hb h.b2, cell_keep hb h.b3, cell_keep hb h.b4, h.cl.below (hb.mono (by omega)), h.rd.below (hb.mono (by omega)), Nat.le_trans h.kw hb.size, ?_⟩
  obtain ⟨F, h1, h2⟩ := h.top
  refine ⟨F, h1.of_block (hb.block _ h1.lt), fun i h3 h4 => ?_⟩
  obtain ⟨gi, f, h5, h6, h7⟩ := h2 i h3 h4
  exact ⟨gi, f, h5, h6, h7.of_block (hb.block _ h7.lt)⟩
theorem DvM.rows {cs : List Cl} {l : List Int} {K : Nat} {A2 : Option Addr} {c2 : Nat} {A3 : Option Addr} {c3 : Nat} {i0 : Nat} {W : World} (h : DvM cs l K A2 c2 A3 c3 i0 W) (i : Nat) (h1 : i0 ≤ i) (h2 : i ≤ cs.length) : ∃ gi, K + 4 ≤ gi ∧ W.cell? ⟨K + 2, i, none⟩ = some (.slice (some ⟨gi, 0, none⟩) (l.length + 1) (l.length + 1)) ∧ ∀ p, p ≤ l.length → (∃ b, W.cell? ⟨gi, p, none⟩ = some (.bool b)) ∧ W.frozen? ⟨gi, p, none⟩ = false := by
  obtain ⟨F, h3, h4⟩ := h.top
  obtain ⟨gi, f, h5, h6, h7⟩ := h4 i h1 h2
  exact ⟨gi, h5, by rw [h3.cell (by omega), h6], fun p hp => ⟨⟨_, h7.cell (by omega)⟩, h7.frozen p⟩⟩
theorem DvM.slot {cs : List Cl} {l : List Int} {K : Nat} {A2 : Option Addr} {c2 : Nat} {A3 : Option Addr} {c3 : Nat} {i0 : Nat} {W : World} (h : DvM cs l K A2 c2 A3 c3 i0 W) (i : Nat) (h2 : i ≤ cs.length) : (∃ u, W.cell? ⟨K + 2, i, none⟩ = some u) ∧ W.frozen? ⟨K + 2, i, none⟩ = false := by
  obtain ⟨F, h3, _⟩ := h.top
  exact ⟨⟨_, h3.cell (by omega)⟩, h3.frozen i⟩
/-- A bool is stored in a row. -/
theorem DvM.setb {cs : List Cl} {l : List Int} {K : Nat} {A2 : Option Addr} {c2 : Nat} {A3 : Option Addr} {c3 : Nat} {i0 : Nat} {W : World} (h : DvM cs l K A2 c2 A3 c3 i0 W) {g p : Nat} (hg : K + 4 ≤ g) (b : Bool) : DvM cs l K A2 c2 A3 c3 i0 (W.setCell ⟨g, p, none⟩ (.bool b)) := by
  have hbl : Below (K + 4) W (W.setCell ⟨g, p, none⟩ (.bool b)) := (Below.refl _ _).setCell (p := ⟨g, p, none⟩) hg _
  refine ⟨cell_set_far h.b2 (.inl (by omega)), cell_set_far h.b3 (.inl (by omega)), cell_set_far h.b4 (.inl (by omega)), h.cl.below (hbl.mono (by omega)), h.rd.below (hbl.mono (by omega)), by simpa [World.setCell] using h.kw, ?_⟩
  obtain ⟨F, h1, h2⟩ := h.top
  refine ⟨F, h1.setOther (a := ⟨g, p, none⟩) (by simp; omega) _, fun i h3 h4 => ?_⟩
  obtain ⟨gi, f, h5, h6, h7⟩ := h2 i h3 h4
  by_cases e : gi = g
  · subst e
    exact ⟨gi, fun j => if j = p then b else f j, h5, h6, (h7.set p _).congr fun j _ => by dsimp only; split <;> rfl⟩
  · exact ⟨gi, f, h5, h6, h7.setOther (a := ⟨g, p, none⟩) (by simpa using e) _⟩
/-- A row is made. -/
theorem DvM.row {cs : List Cl} {l : List Int} {K : Nat} {A2 : Option Addr} {c2 : Nat} {A3 : Option Addr} {c3 : Nat} {i0 : Nat} {W : World} (h : DvM cs l K A2 c2 A3 c3 (i0 + 1) W) {g : Nat} (hg : g = W.heap.size) : DvM cs l K A2 c2 A3 c3 i0 ((W.alloc (.cells (madeCells #[.bool false] (l.length + 1)) 4)).setCell ⟨K + 2, i0, none⟩ (.slice (some ⟨g, 0, none⟩) (l.length + 1) (l.length + 1))) := by
  have hk := h.kw
  have h0 := h.below ((Below.refl W.heap.size W).alloc (Nat.le_refl _) (.cells (madeCells #[.bool false] (l.length + 1)) 4))
  have hn := World.rowIs_made W (.bool false) (l.length + 1) 4
  have hz : W.heap.size < (W.alloc (.cells (madeCells #[.bool false] (l.length + 1)) 4)).heap.size := by simp
  rw [← hg] at hn hz
  generalize W.alloc (.cells (madeCells #[.bool false] (l.length + 1)) 4) = W1 at h0 hn hz
  have hbl : Below K W1 (W1.setCell ⟨K + 2, i0, none⟩ (.slice (some ⟨g, 0, none⟩) (l.length + 1) (l.length + 1))) := (Below.refl _ _).setCell (p := ⟨K + 2, i0, none⟩) (by simp) _
  refine ⟨cell_set_far h0.b2 (.inl (by omega)), cell_set_far h0.b3 (.inl (by omega)), cell_set_far h0.b4 (.inl (by omega)), h0.cl.below hbl, h0.rd.below hbl, by simpa [World.setCell] using h0.kw, ?_⟩
  obtain ⟨F, h1, h2⟩ := h0.top
  refine ⟨_, h1.set i0 _, fun i h3 h4 => ?_⟩
  by_cases e : i = i0
  · subst e
    exact ⟨g, fun _ => false, by omega, by simp, hn.setOther (a := ⟨K + 2, i, none⟩) (by simp; omega) _⟩
  · obtain ⟨gi, f, h5, h6, h7⟩ := h2 i (by omega) h4
    exact ⟨gi, f, h5, by rw [if_neg e]; exact h6, h7.setOther (a := ⟨K + 2, i0, none⟩) (by simp; omega) _⟩
set_option maxRecDepth 100000 in
set_option maxHeartbeats 4000000 in
theorem most_any {cs : List Cl} {n : Nat} (hc : CsOk cs n) {l : List Int} (hl : l.length ≤ 1000) {K : Nat} {A2 : Option Addr} {c2 : Nat} {A3 : Option Addr} {c3 : Nat} {i0 : Nat} (i p : Nat) (hi : i < cs.length) (hi0 : i0 ≤ i + 1) (hp : p ≤ l.length) (w : World) (h : DvM cs l K A2 c2 A3 c3 i0 w) :
    Calls Try.prog 72 #[.int .i64 (i : Int), .int .i64 (p : Int), .pointer (some ⟨K, 0, none⟩), .pointer (some ⟨K + 1, 0, none⟩), .pointer (some ⟨K + 3, 0, none⟩)] w fun e w' => (∃ b : Int, e = .returned (.int .i64 b) ∧ -1 ≤ b ∧ b ≤ 100 ∧ (0 ≤ b → (p : Int) + b ≤ l.length)) ∧ Below w.heap.size w w' := by
  have hlen := hc.len
  have hcl := hc.ok _ (List.getElem_mem hi)
  have hsg := hc.sg _ (List.getElem_mem hi)
  rw [← cl_at hi] at hcl hsg
  have h9 := hcl.hi; have h0 := hcl.lo; have h1 := hcl.le
  obtain ⟨bA, oA, rfl, hbA, hcla⟩ := h.cl.at (by omega)
  have hca := hcla i hi
  rw [← cl_at hi] at hca
  have hrs := h.cl.sgs _ (List.getElem_mem hi)
  rw [← cl_at hi] at hrs
  obtain ⟨gi, _, hgi, hrow⟩ := h.rows (i + 1) hi0 hi
  obtain ⟨mX, hmX⟩ : ∃ k : Nat, (cl cs i).mx = (k : Int) := ⟨(cl cs i).mx.toNat, by omega⟩
  obtain ⟨mN, hmN⟩ : ∃ k : Int, k = (cl cs i).mn := ⟨_, rfl⟩
  obtain ⟨sa, hsa⟩ : ∃ s, s = (cl cs i).sa := ⟨_, rfl⟩
  obtain ⟨sc, hsc⟩ : ∃ s, s = (cl cs i).sc := ⟨_, rfl⟩
  obtain ⟨sl, hsl⟩ : ∃ s, s = (cl cs i).signs.length := ⟨_, rfl⟩
  obtain ⟨m2, hm2⟩ : ∃ m, m = cs.length := ⟨_, rfl⟩
  obtain ⟨m, hm⟩ : ∃ m, m = l.length := ⟨_, rfl⟩
  have HF := hid fun (W : World) (hW : Below w.heap.size w W) => (show (W.cell? ⟨K, 0, none⟩ = some (.slice (some ⟨bA, oA, none⟩) m2 c2) ∧ W.cell? ⟨K + 1, 0, none⟩ = some (.slice A3 m c3) ∧ W.cell? ⟨K + 3, 0, none⟩ = some (.slice (some ⟨K + 2, 0, none⟩) (m2 + 1) (m2 + 1))) ∧ (W.cell? ⟨bA, oA + i * 3, none⟩ = some (.int .i64 mN) ∧ W.cell? ⟨bA, oA + i * 3 + 1, none⟩ = some (.int .i64 (mX : Int)) ∧ W.cell? ⟨bA, oA + i * 3 + 2, none⟩ = some (.slice sa sl sc)) ∧ W.cell? ⟨K + 2, i + 1, none⟩ = some (.slice (some ⟨gi, 0, none⟩) (m + 1) (m + 1)) from by
    have k1 := cell_keep hW h.b2; have k2 := cell_keep hW h.b3; have k3 := cell_keep hW h.b4
    have k4 := cell_keep hW hca.mn; have k5 := cell_keep hW hca.mx; have k6 := cell_keep hW hca.sg; have k7 := cell_keep hW hgi
    rw [hm, hm2, hmN, ← hmX, hsa, hsl, hsc]
    exact ⟨⟨k1, k2, k3⟩, ⟨k4, k5, k6⟩, k7⟩)
  have HROW := hid fun (W : World) (hW : Below w.heap.size w W) (q : Nat) (hq : q ≤ m) => (show ∃ b, W.cell? ⟨gi, q, none⟩ = some (.bool b) from by
    obtain ⟨⟨b, hb⟩, _⟩ := hrow q (by omega)
    exact ⟨b, cell_keep hW hb⟩)
  have hkw := h.kw
  have HRD := hid fun (W : World) (hW : Below w.heap.size w W) => h.rd.below (hW.mono (show K ≤ w.heap.size by omega))
  have HAL := hid fun (W : World) (hW : Below w.heap.size w W) (a : Int) => (show Calls Try.prog 67 #[.agg #[.int .i64 mN, .int .i64 (mX : Int), .slice sa sl sc], .int .i64 a] W fun e w' => (∃ b, e = .returned (.bool b)) ∧ Below W.heap.size W w' from by
    have h4 := allows_any (cl cs i) a hsg W K (by have := hW.size; omega) (hrs.below (hW.mono (by omega)))
    rw [hmX, ← hmN, ← hsa, ← hsc, ← hsl] at h4
    exact h4.mono fun e w' ⟨h5, h6⟩ => ⟨⟨_, h5⟩, h6⟩)
  rw [hmX] at h9
  rw [← hm] at hp hl ⊢
  rw [← hm2] at hi hlen
  have HM := hid hm
  have q0 : (i : Int) < (m2 : Int) := by omega
  clear hkw hcl hsg hca hrs hcla hgi hrow hmX hmN hsa hsc hsl hm2 hm h hc h0 h1
  go_enter Try.func72, Try.ntmps72
  go_wp2_with fail
  go_loopw [8, 9] (fun v8 nv wr => ∃ (b : Int) (q : Nat), v8 = .int .i64 b ∧ nv = .int .i64 (q : Int) ∧ q ≤ mX + 1 ∧ -1 ≤ b ∧ b ≤ 100 ∧ Hid (0 ≤ b → (p : Int) + b ≤ m) ∧ Hid (Below w.heap.size w wr)) (fun _ nv _ => mX + 1 - (intOf nv).toNat)
  case atStart => exact ⟨-1, 0, rfl, rfl, by omega, by omega, by omega, hid fun h => by omega, hid (Below.refl _ _)⟩
  case round =>
    obtain ⟨b, q, rfl, rfl, hq, hb1, hb2, hB, hW⟩ := hrel
    obtain ⟨⟨f1, f2, f3⟩, ⟨f4, f5, f6⟩, f7⟩ := HF.out wr hW.out
    by_cases hqx : q ≤ mX
    · have e1 : decide ((q : Int) ≤ (mX : Int)) = true := decide_eq_true (by omega)
      by_cases hpq : p + q ≤ m
      · have e2 : decide ((p : Int) + (q : Int) ≤ (m : Int)) = true := decide_eq_true (by omega)
        go_upto_region 5 with (fail)
        by_cases hq0 : 0 < q
        · have e3 : decide ((0 : Int) < (q : Int)) = true := decide_eq_true (by omega)
          have e3n : decide (0 < q) = true := decide_eq_true hq0
          obtain ⟨P1, hP1⟩ : ∃ k, k = p + q - 1 := ⟨_, rfl⟩
          obtain ⟨b3, o3, rfl, hb3, hc3⟩ := (HRD.out wr hW.out).at (by rw [← HM.out]; omega)
          have p1 := hc3 P1 (by rw [← HM.out]; omega)
          generalize nth l P1 = av at p1
          have kk1 : IntKind.i64.wrap ((p : Int) + (q : Int)) = (p : Int) + (q : Int) := IntWalk.i64_in _ (by omega)
          have kk2 : IntKind.i64.wrap (P1 : Int) = (P1 : Int) := IntWalk.i64_in _ (by omega)
          have kk3 : (p : Int) + (q : Int) - 1 = (P1 : Int) := by omega
          have kk4 : (P1 : Int) < (m : Int) := by omega
          clear hc3 hP1
          go_still_tail 14, (by kernel_rfl)
          go_upto_region 6 with (first | (go_at_call 67; refine (HAL.out _ hW.out.drew av).mono ?_; rintro e w7 ⟨⟨ab, rfl⟩, h7⟩; have H7 := hid (hW.out.drew.trans (h7.mono hW.out.drew.size)); clear h7; cases ab))
          · go_ret
            exact ⟨⟨b, rfl, hb1, hb2, hB.out⟩, H7.out⟩
          · clear f1 f2 f3 f4 f5 f6 f7 kk1 kk2 kk3 kk4 p1
            have HW2 := H7
            obtain ⟨⟨j1, j2, j3⟩, ⟨j4, j5, j6⟩, j7⟩ := HF.out w7 HW2.out
            obtain ⟨fb, jb⟩ := HROW.out w7 HW2.out (p + q) hpq
            have s1 : (i : Int) + 1 < (m2 : Int) + 1 := by omega
            have s2 : (0 : Int) ≤ (i : Int) + 1 := by omega
            have s3 : (p : Int) + (q : Int) < (m : Int) + 1 := by omega
            have s4 : (0 : Int) ≤ (p : Int) + (q : Int) := by omega
            by_cases hmn : mN ≤ (q : Int)
            · have e4 : decide (mN ≤ (q : Int)) = true := decide_eq_true hmn
              clear hmn
              cases fb with
              | true =>
                go_wp2_with fail
                go_roundw
                case rel => exact ⟨(q : Int), q + 1, rfl, by go_num, by omega, by omega, by omega, hid fun _ => by omega, HW2⟩
                case measure => simp [intOf]; omega
              | false =>
                go_wp2_with fail
                go_roundw
                case rel => exact ⟨b, q + 1, rfl, by go_num, by omega, by omega, by omega, hB, HW2⟩
                case measure => simp [intOf]; omega
            · have e4 : decide (mN ≤ (q : Int)) = false := decide_eq_false hmn
              clear hmn
              go_wp2_with fail
              go_roundw
              case rel => exact ⟨b, q + 1, rfl, by go_num, by omega, by omega, by omega, hB, HW2⟩
              case measure => simp [intOf]; omega
        · have e3 : decide ((0 : Int) < (q : Int)) = false := decide_eq_false (by omega)
          have e3n : decide (0 < q) = false := decide_eq_false hq0
          clear hq0
          go_quiet (fail)
          go_upto_region 6 with (fail)
          clear f1 f2 f3 f4 f5 f6 f7
          have HW2 := hid (below_drewN hW.out nq)
          obtain ⟨⟨j1, j2, j3⟩, ⟨j4, j5, j6⟩, j7⟩ := HF.out (wr.drewN nq) HW2.out
          obtain ⟨fb, jb⟩ := HROW.out (wr.drewN nq) HW2.out (p + q) hpq
          have s1 : (i : Int) + 1 < (m2 : Int) + 1 := by omega
          have s2 : (0 : Int) ≤ (i : Int) + 1 := by omega
          have s3 : (p : Int) + (q : Int) < (m : Int) + 1 := by omega
          have s4 : (0 : Int) ≤ (p : Int) + (q : Int) := by omega
          by_cases hmn : mN ≤ (q : Int)
          · have e4 : decide (mN ≤ (q : Int)) = true := decide_eq_true hmn
            clear hmn
            cases fb with
            | true =>
              go_wp2_with fail
              go_roundw
              case rel => exact ⟨(q : Int), q + 1, rfl, by go_num, by omega, by omega, by omega, hid fun _ => by omega, HW2⟩
              case measure => simp [intOf]; omega
            | false =>
              go_wp2_with fail
              go_roundw
              case rel => exact ⟨b, q + 1, rfl, by go_num, by omega, by omega, by omega, hB, HW2⟩
              case measure => simp [intOf]; omega
          · have e4 : decide (mN ≤ (q : Int)) = false := decide_eq_false hmn
            clear hmn
            go_wp2_with fail
            go_roundw
            case rel => exact ⟨b, q + 1, rfl, by go_num, by omega, by omega, by omega, hB, HW2⟩
            case measure => simp [intOf]; omega
      · have e2 : decide ((p : Int) + (q : Int) ≤ (m : Int)) = false := decide_eq_false (by omega)
        go_wp2_with fail
        go_ret
        exact ⟨⟨b, rfl, hb1, hb2, hB.out⟩, hW.out⟩
    · have e1 : decide ((q : Int) ≤ (mX : Int)) = false := decide_eq_false (by omega)
      go_wp2_with fail
      go_ret
      exact ⟨⟨b, rfl, hb1, hb2, hB.out⟩, hW.out⟩
end Go.Proofs.Ytaoddenadfmdbaa

/- WALK: divide: it answers, and changes nothing that was there. -/
namespace Go.Proofs.Ytaoddenadfmdbaa
open Go.RowKit Go.Maps
theorem Try.infoBool : (Try.prog.info? 4).map (fun i => (i.zero, i.size, i.bytes)) = some (some (.bool false), 1, 1) := by kernel_rfl
theorem Try.infoBools : (Try.prog.info? 44).map (fun i => (i.zero, i.size, i.bytes)) = some (some (.slice none 0 0), 1, 24) := by kernel_rfl
set_option maxRecDepth 100000 in
set_option maxHeartbeats 4000000 in
theorem divide_any {cs : List Cl} {n : Nat} (hc : CsOk cs n) (l : List Int) (hl : l.length ≤ 1000) (A2 A3 : Option Addr) (c2 c3 : Nat) (w : World) (rc : Cls w w.heap.size A2 cs) (rl : Rd w w.heap.size A3 l) :
    Calls Try.prog 61 #[.slice A2 cs.length c2, .slice A3 l.length c3] w fun e w' => (∃ A' m' c' b, e = .returned (.tuple #[.slice A' m' c', .bool b])) ∧ Below w.heap.size w w' := by
  have hlen := hc.len
  obtain ⟨m2, hm2⟩ : ∃ m, m = cs.length := ⟨_, rfl⟩
  obtain ⟨m, hm⟩ : ∃ m, m = l.length := ⟨_, rfl⟩
  rw [← hm2] at hlen
  rw [← hm] at hl
  have hmk : ∀ W, (Instr.makeSlice 128 (.int .i64 ((m2 : Int) + 1)) (.int .i64 ((m2 : Int) + 1))).run Try.prog W = .ok (.slice (some ⟨W.heap.size, 0, none⟩) (m2 + 1) (m2 + 1)) (W.alloc (.cells (madeCells #[.slice none 0 0] (m2 + 1)) 44)) := fun W => by
    have := run_make_row' (P := Try.prog) 128 44 (.slice none 0 0) 24 Try.underlying128 Try.infoBools rfl .i64 .i64 (m2 + 1) (by omega) (by omega) W
    simpa using this
  have hmk2 : ∀ W, (Instr.makeSlice 44 (.int .i64 ((m : Int) + 1)) (.int .i64 ((m : Int) + 1))).run Try.prog W = .ok (.slice (some ⟨W.heap.size, 0, none⟩) (m + 1) (m + 1)) (W.alloc (.cells (madeCells #[.bool false] (m + 1)) 4)) := fun W => by
    have := run_make_row' (P := Try.prog) 44 4 (.bool false) 1 Try.underlying44 Try.infoBool rfl .i64 .i64 (m + 1) (by omega) (by omega) W
    simpa using this
  have HM2 := hid hm2; have HM := hid hm; have HC := hid hc; have HRC := hid rc; have HRL := hid rl
  rw [← hm2, ← hm]
  clear hm hm2 hc rc rl
  go_enter Try.func61, Try.ntmps61
  go_upto_region 2 with (fail)
  obtain ⟨K, hK⟩ : ∃ K, K = w.heap.size := ⟨_, rfl⟩
  rw [← hK]
  rw [show K + 1 + 1 + 1 = K + 3 from rfl, show K + 1 + 1 = K + 2 from rfl]
  obtain ⟨w1, hw1⟩ : ∃ W, W = ((((w.alloc (.cells #[.slice A2 m2 c2] 25)).alloc (.cells #[.slice A3 m c3] 26)).alloc (.cells (madeCells #[.slice none 0 0] (m2 + 1)) 44)).alloc (.cells #[.slice (some ⟨K + 2, 0, none⟩) (m2 + 1) (m2 + 1)] 128)) := ⟨_, rfl⟩
  have hb1 : Below w.heap.size w w1 := by
    rw [hw1]
    exact ((((Below.refl w.heap.size w).alloc (Nat.le_refl _) _).alloc (by simp) _).alloc (by simp; omega) _).alloc (by simp; omega) _
  have hD1 : DvM cs l K A2 c2 A3 c3 (cs.length + 1) w1 := by
    refine ⟨?_, ?_, ?_, ?_, ?_, ?_, ?_⟩
    · rw [hw1, ← HM2.out]; exact cell_old (cell_old (cell_old (cell_here hK rfl)))
    · rw [hw1, ← HM.out]; exact cell_old (cell_old (cell_here (by simp [hK]) rfl))
    · rw [hw1, ← HM2.out]; exact cell_here (by simp [hK]) rfl
    · rw [hK]; exact HRC.out.below hb1
    · rw [hK]; exact HRL.out.below hb1
    · rw [hw1, hK]; simp
    · refine ⟨fun _ => .slice none 0 0, ?_, fun i h1 h2 => by omega⟩
      rw [hw1, ← HM2.out]
      have h3 := World.rowIs_made ((w.alloc (.cells #[.slice A2 m2 c2] 25)).alloc (.cells #[.slice A3 m c3] 26)) (.slice none 0 0) (m2 + 1) 44
      rw [show ((w.alloc (.cells #[.slice A2 m2 c2] 25)).alloc (.cells #[.slice A3 m c3] 26)).heap.size = K + 2 by simp [hK]] at h3
      exact h3.alloc _
  rw [← hw1]
  have D1 := hid hD1; have HB1 := hid hb1; have HKK := hid hK
  have hf1 := hD1.b2; have hf2 := hD1.b3; have hf3 := hD1.b4
  rw [← HM2.out] at hf1 hf3; rw [← HM.out] at hf2
  clear hw1 hb1 hD1 hK hmk
  have kk1 : IntKind.i64.wrap ((m : Int) + 1) = (m : Int) + 1 := IntWalk.i64_in _ (by omega)
  have kk2 : (m2 : Int) < (m2 : Int) + 1 := by omega
  refine region_call [0, 1, 2, 3, 4, 5] [6, 7] [8] (fun W => W.cell? ⟨K, 0, none⟩ = some (.slice A2 m2 c2) ∧ W.cell? ⟨K + 1, 0, none⟩ = some (.slice A3 m c3) ∧ W.cell? ⟨K + 3, 0, none⟩ = some (.slice (some ⟨K + 2, 0, none⟩) (m2 + 1) (m2 + 1))) (by kernel_rfl) (by kernel_rfl) (fun d _ _ _ _ h => by cases d <;> exact h) ⟨hf1, hf2, hf3⟩ ?_
  apply Exists.intro
  simp only [List.map_cons, List.map_nil, List.getD_cons_zero, List.getD_cons_succ]
  refine ⟨⟨.slice (some ⟨K + 2, 0, none⟩) (m2 + 1) (m2 + 1), Or.inl ⟨by rfl, fun W hW => by have p := hW.2.2; go_simp⟩, .slice A2 m2 c2, Or.inl ⟨by rfl, fun W hW => by have p := hW.1; go_simp⟩, .int .i64 (m2 : Int), Or.inl ⟨by rfl, fun W hW => by go_simp⟩, .slice A3 m c3, Or.inl ⟨by rfl, fun W hW => by have p := hW.2.1; go_simp⟩, .int .i64 (m : Int), Or.inl ⟨by rfl, fun W hW => by go_simp⟩, .int .i64 ((m : Int) + 1), Or.inl ⟨by rfl, fun W hW => by go_simp⟩, rfl⟩, ?_⟩
  simp only [Act.put, List.setIfInBounds_toArray, List.set_cons_zero, List.set_cons_succ]
  refine wpMid_step rfl (fun K9 hK => ?_)
  go_simp
  refine hK.out _ _ ⟨cell_old hf1, cell_old hf2, cell_old hf3⟩ ?_
  clear hK K9
  refine wpMid_step rfl (fun K9 hK => ?_)
  go_simp
  refine hK.out _ _ ⟨cell_old hf1, cell_old hf2, cell_old hf3⟩ ?_
  clear hK K9
  simp only [wpMid]
  have hD2 := D1.out.below (((Below.refl w1.heap.size w1).alloc (Nat.le_refl _) (.cells (madeCells #[.bool false] (m + 1)) 4)).drew)
  obtain ⟨⟨u0, s1⟩, s2⟩ := hD2.slot cs.length (Nat.le_refl _)
  rw [← HM2.out] at s1 s2
  have hD3 : DvM cs l K A2 c2 A3 c3 cs.length (((w1.alloc (.cells (madeCells #[.bool false] (m + 1)) 4)).setCell ⟨K + 2, m2, none⟩ (.slice (some ⟨w1.heap.size, 0, none⟩) (m + 1) (m + 1))).drew) := by
    have h4 := D1.out.row (g := w1.heap.size) rfl
    rw [← HM.out, ← HM2.out] at h4
    rw [← HM2.out]
    exact h4.below (Below.refl _ _).drew
  have hB3 : Below w.heap.size w (((w1.alloc (.cells (madeCells #[.bool false] (m + 1)) 4)).setCell ⟨K + 2, m2, none⟩ (.slice (some ⟨w1.heap.size, 0, none⟩) (m + 1) (m + 1))).drew) := ((HB1.out.alloc HB1.out.size _).setCell (by simp [HKK.out]) _).drew
  have D3 := hid hD3; have HB3 := hid hB3
  clear hD2 hD3 hB3 hf1 hf2 hf3 kk1
  go_upto_region 3 with (fail)
  obtain ⟨w3, hw3⟩ : ∃ W, W = ((w1.alloc (.cells (madeCells #[.bool false] (m + 1)) 4)).setCell ⟨K + 2, m2, none⟩ (.slice (some ⟨w1.heap.size, 0, none⟩) (m + 1) (m + 1))).drew := ⟨_, rfl⟩
  rw [← hw3] at D3 HB3 ⊢
  clear hw3 s1 s2 D1 HB1
  have DF := hid fun (i0 : Nat) (W : World) (h : DvM cs l K A2 c2 A3 c3 i0 W) => (show W.cell? ⟨K, 0, none⟩ = some (.slice A2 m2 c2) ∧ W.cell? ⟨K + 1, 0, none⟩ = some (.slice A3 m c3) ∧ W.cell? ⟨K + 3, 0, none⟩ = some (.slice (some ⟨K + 2, 0, none⟩) (m2 + 1) (m2 + 1)) ∧ ∀ i, i0 ≤ i → i ≤ m2 → ∃ gi, K + 4 ≤ gi ∧ W.cell? ⟨K + 2, i, none⟩ = some (.slice (some ⟨gi, 0, none⟩) (m + 1) (m + 1)) ∧ ∀ p, p ≤ m → (∃ b, W.cell? ⟨gi, p, none⟩ = some (.bool b)) ∧ W.frozen? ⟨gi, p, none⟩ = false from by
    rw [HM.out, HM2.out]
    exact ⟨h.b2, h.b3, h.b4, h.rows⟩)
  have DF2 := hid fun (i0 : Nat) (W : World) (h : DvM cs l K A2 c2 A3 c3 i0 W) (i : Nat) (hi : i ≤ m2) => h.slot i (by rw [← HM2.out]; exact hi)
  obtain ⟨f1, f2, f3, f4⟩ := DF.out _ _ D3.out
  obtain ⟨gi, hgi, f5, f6⟩ := f4 m2 (by rw [HM2.out]; exact Nat.le_refl _) (Nat.le_refl _)
  obtain ⟨⟨ub, f7⟩, f8⟩ := f6 m (Nat.le_refl _)
  have kk3 : (m : Int) < (m : Int) + 1 := by omega
  have D4 := hid ((D3.out.setb (p := m) hgi true).below (Below.refl _ _).drew)
  have HB4 := hid (show Below w.heap.size w (w3.setCell ⟨gi, m, none⟩ (.bool true)).drew from (HB3.out.setCell (p := ⟨gi, m, none⟩) (by have := HKK.out; show w.heap.size ≤ gi; omega) _).drew)
  clear f4 f6
  go_still_tail 8, (by kernel_rfl)
  obtain ⟨w4, hw4⟩ : ∃ W, W = (w3.setCell ⟨gi, m, none⟩ (.bool true)).drew := ⟨_, rfl⟩
  rw [← hw4] at D4 HB4
  have hmf : ∀ (fn : Fn) (first cap : Array Value) (w : World), (Instr.makeFunc fn first cap).run Try.prog w = .ok (.func fn first cap) w := fun _ _ _ _ => rfl
  go_upto_region 4 with (fail)
  rw [← hw4]
  obtain ⟨f1, f2, f3, _⟩ := DF.out _ _ D4.out
  clear hw4 f5 f7 f8 hgi
  go_wp2_with fail
  go_loopw [8] (fun iv wr => ∃ r : Nat, r ≤ m2 ∧ iv = .int .i64 ((r : Int) - 1) ∧ Hid (DvM cs l K A2 c2 A3 c3 r wr) ∧ Hid (Below w.heap.size w wr)) (fun iv _ => (intOf iv + 1).toNat)
  case atStart => exact ⟨m2, Nat.le_refl _, by go_num, by have h := D4; rw [← HM2.out] at h; exact h, HB4⟩
  case round =>
    obtain ⟨r, hr, rfl, hD, hB⟩ := hrel
    obtain ⟨f1, f2, f3, f4⟩ := DF.out _ _ hD.out
    cases r with
    | zero =>
      rw [show (((0 : Nat) : Int) - 1) = -1 from rfl]
      have HD := hid hD.out; have HB := hid hB.out
      obtain ⟨g0, _, f5, f6⟩ := f4 0 (Nat.le_refl _) (Nat.zero_le _)
      obtain ⟨⟨b0, f7⟩, _⟩ := f6 0 (Nat.zero_le _)
      have q1 : (0 : Int) < (m2 : Int) + 1 := by omega
      have q2 : (0 : Int) < (m : Int) + 1 := by omega
      clear f4 f6
      cases b0 with
      | false =>
        go_wp2_with fail
        go_ret2
        exact ⟨⟨none, 0, 0, false, rfl⟩, HB.out⟩
      | true =>
        obtain ⟨wo, rfl⟩ : ∃ wo : World, wo = wr := ⟨_, rfl⟩
        go_wp2_with fail
        clear f1 f2 f3 f5 f7
        go_loopw [4, 74] (fun v4 iv wr => ∃ (i L : Nat) (xs : List Value), i ≤ m2 ∧ iv = .int .i64 (i : Int) ∧ L ≤ m ∧ Hid (wr.ownsRow wo.heap.size 3 1 v4 L xs) ∧ Hid (Below wo.heap.size wo wr)) (fun _ iv _ => m2 - (intOf iv).toNat)
        case atStart => exact ⟨0, 0, [], by omega, rfl, by omega, hid (World.ownsRow_nil _ _ _ _), hid (Below.refl _ _)⟩
        case round =>
          obtain ⟨i, L, xs, hi, rfl, hL, hO, hB⟩ := hrel
          obtain ⟨A7, c7, rfl⟩ := own_slice hO.out
          by_cases him : i < m2
          · have q3 : (i : Int) < (m2 : Int) := by omega
            have HMO := hid (most_any HC.out (by rw [← HM.out]; exact hl) i L (by rw [← HM2.out]; exact him) (by omega) (by rw [← HM.out]; exact hL) wr (HD.out.below hB.out))
            rw [← HM.out] at HMO
            go_upto_region 20 with (first | (go_at_call 72; refine HMO.out.mono ?_; rintro e w7 ⟨⟨b, rfl, hb1, hb2, hb3⟩, h7⟩; have H7 := hid h7; have HBB := hid hb3; clear h7 hb3))
            obtain ⟨wq, rfl⟩ : ∃ wo : World, wo = wr := ⟨_, rfl⟩
            have HO7 := hid (own_keep hO.out H7.out)
            have HB7 := hid (hB.out.trans (H7.out.mono hB.out.size))
            clear HMO
            go_loopw [4, 82] (fun v4 qv wr => ∃ (q : Nat) (xs : List Value), qv = .int .i64 (q : Int) ∧ (q : Int) ≤ 100 ∧ (q = 0 ∨ (q : Int) ≤ b) ∧ Hid (wr.ownsRow wo.heap.size 3 1 v4 (L + q) xs) ∧ Hid (Below wo.heap.size wo wr)) (fun _ qv _ => 101 - (intOf qv).toNat)
            case atStart => exact ⟨0, xs, rfl, by omega, .inl rfl, HO7, HB7⟩
            case round =>
              obtain ⟨q, xs, rfl, hq, hqb, hO, hB⟩ := hrel
              by_cases hlt : (q : Int) < b
              · have q4 : decide ((q : Int) < b) = true := decide_eq_true hlt
                have hLq : L + q ≤ 10000000000 := by have := HBB.out (by omega); omega
                have HSZ := hid hB.out.size
                go_wp2_with (first
                  | (at_builtin; go_loud (refine app_elem rfl (.tmp 84) (.tmp 86) Try.underlying26 Try.infoInt rfl (by decide) (by decide) rfl wo.heap.size _ (L + q) xs rfl (hO.out.alloc _) ⟨wr.heap.size, 0, none⟩ [.int .i64 (i : Int)] rfl rfl (cell_news wr [.int .i64 (i : Int)] _) (by simp [Value.oneCell']) hLq (by have := HSZ.out; simp; omega) ?_); intro v5 w5 ho5 hg5; have HO5 := hid ho5; have HG5 := hid hg5; clear ho5 hg5))
                have hA : Below wr.heap.size wr (wr.alloc (.cells #[.int .i64 (i : Int)] 3)) := (Below.refl _ _).alloc (Nat.le_refl _) _
                have hb5 : Below wo.heap.size wo w5 := (hB.out.trans (hA.mono hB.out.size)).grown HG5.out (by have := HSZ.out; simp; omega) (fun j hj => (hO.out.lt j hj).1)
                go_roundw
                case rel => exact ⟨q + 1, _, by go_num, by omega, .inr (by omega), HO5, hid hb5⟩
                case measure => simp [intOf]; omega
              · have q4 : decide ((q : Int) < b) = false := decide_eq_false hlt
                have hqL : L + q ≤ m := by
                  rcases hqb with h | h
                  · omega
                  · have := HBB.out (by omega); omega
                go_wp2_with fail
                go_roundw
                case rel => exact ⟨i + 1, L + q, xs, by omega, by go_num, hqL, hO, hB⟩
                case measure => simp [intOf]; omega
          · obtain rfl : i = m2 := by omega
            have q3 : decide ((i : Int) < (i : Int)) = false := by simp
            go_wp2_with fail
            go_ret2
            exact ⟨⟨A7, L, c7, true, rfl⟩, HB.out.trans (hB.out.mono HB.out.size)⟩
    | succ i =>
      rw [show (((i + 1 : Nat) : Int) - 1) = (i : Int) by omega]
      have e1 : decide ((0 : Int) ≤ (i : Int)) = true := decide_eq_true (by omega)
      have kk1 : IntKind.i64.wrap ((m : Int) + 1) = (m : Int) + 1 := IntWalk.i64_in _ (by omega)
      have kk4 : (i : Int) < (m2 : Int) + 1 := by omega
      clear f4
      go_upto_region 8 with (fail)
      refine region_call [0, 1, 2, 3, 4] [5, 6] [7] (fun W => W.cell? ⟨K, 0, none⟩ = some (.slice A2 m2 c2) ∧ W.cell? ⟨K + 1, 0, none⟩ = some (.slice A3 m c3) ∧ W.cell? ⟨K + 3, 0, none⟩ = some (.slice (some ⟨K + 2, 0, none⟩) (m2 + 1) (m2 + 1))) (by kernel_rfl) (by kernel_rfl) (fun d _ _ _ _ h => by cases d <;> exact h) ⟨f1, f2, f3⟩ ?_
      apply Exists.intro
      simp only [List.map_cons, List.map_nil, List.getD_cons_zero, List.getD_cons_succ]
      refine ⟨⟨.slice (some ⟨K + 2, 0, none⟩) (m2 + 1) (m2 + 1), Or.inl ⟨by rfl, fun W hW => by have p := hW.2.2; go_simp⟩, _, Or.inl ⟨by rfl, fun W hW => by go_simp; rfl⟩, .slice A3 m c3, Or.inl ⟨by rfl, fun W hW => by have p := hW.2.1; go_simp⟩, .int .i64 (m : Int), Or.inl ⟨by rfl, fun W hW => by go_simp⟩, .int .i64 ((m : Int) + 1), Or.inl ⟨by rfl, fun W hW => by go_simp⟩, rfl⟩, ?_⟩
      simp only [Act.put, List.setIfInBounds_toArray, List.set_cons_zero, List.set_cons_succ]
      refine wpMid_step rfl (fun K9 hK => ?_)
      go_simp
      refine hK.out _ _ ⟨cell_old f1, cell_old f2, cell_old f3⟩ ?_
      clear hK K9
      refine wpMid_step rfl (fun K9 hK => ?_)
      go_simp
      refine hK.out _ _ ⟨cell_old f1, cell_old f2, cell_old f3⟩ ?_
      clear hK K9
      simp only [wpMid]
      have hD5 := hD.out.below (((Below.refl wr.heap.size wr).alloc (Nat.le_refl _) (.cells (madeCells #[.bool false] (m + 1)) 4)).drew)
      obtain ⟨⟨u0, s1⟩, s2⟩ := DF2.out _ _ hD5 i (by omega)
      have hD6 : DvM cs l K A2 c2 A3 c3 i (((wr.alloc (.cells (madeCells #[.bool false] (m + 1)) 4)).setCell ⟨K + 2, i, none⟩ (.slice (some ⟨wr.heap.size, 0, none⟩) (m + 1) (m + 1))).drew) := by
        have h4 := hD.out.row (g := wr.heap.size) rfl
        rw [← HM.out] at h4
        exact h4.below (Below.refl _ _).drew
      have hB6 : Below w.heap.size w (((wr.alloc (.cells (madeCells #[.bool false] (m + 1)) 4)).setCell ⟨K + 2, i, none⟩ (.slice (some ⟨wr.heap.size, 0, none⟩) (m + 1) (m + 1))).drew) := ((hB.out.alloc hB.out.size _).setCell (p := ⟨K + 2, i, none⟩) (by simp [HKK.out]) _).drew
      have D6 := hid hD6; have HB6 := hid hB6
      clear hD5 hD6 hB6 f1 f2 f3 kk1
      go_upto_region 9 with (fail)
      obtain ⟨w6, hw6⟩ : ∃ W, W = ((wr.alloc (.cells (madeCells #[.bool false] (m + 1)) 4)).setCell ⟨K + 2, i, none⟩ (.slice (some ⟨wr.heap.size, 0, none⟩) (m + 1) (m + 1))).drew := ⟨_, rfl⟩
      rw [← hw6] at D6 HB6 ⊢
      clear hw6 s1 s2 hD hB
      obtain ⟨f1, f2, f3, f4⟩ := DF.out _ _ D6.out
      obtain ⟨gx, _, f5, _⟩ := f4 i (Nat.le_refl _) (by omega)
      clear f4
      go_wp2_with fail
      clear f5
      go_loopw [51] (fun pv wr => ∃ p : Nat, p ≤ m + 1 ∧ pv = .int .i64 (p : Int) ∧ Hid (DvM cs l K A2 c2 A3 c3 i wr) ∧ Hid (Below w.heap.size w wr)) (fun pv _ => m + 1 - (intOf pv).toNat)
      case atStart => exact ⟨0, by omega, rfl, D6, HB6⟩
      case round =>
        obtain ⟨p, hp, rfl, hD, hB⟩ := hrel
        by_cases hpm : p < m + 1
        · have q1 : (p : Int) < (m : Int) + 1 := by omega
          obtain ⟨f1, f2, f3, f4⟩ := DF.out _ _ hD.out
          obtain ⟨gi, hgi, f5, f6⟩ := f4 i (Nat.le_refl _) (by omega)
          have HMO := hid fun (W : World) (hW : DvM cs l K A2 c2 A3 c3 i W) => most_any HC.out (by rw [← HM.out]; exact hl) i p (by rw [← HM2.out]; omega) (by omega) (by rw [← HM.out]; omega) W hW
          have HF6 := hid f6; have HGI := hid hgi
          clear f4 f6 hgi f1 f2 f3
          go_upto_region 12 with (fail)
          refine region_call2 [0, 1, 2, 3, 4, 5, 6, 7] [8] [9, 10] [11] (fun W => DvM cs l K A2 c2 A3 c3 i W ∧ W.cell? ⟨K + 2, i, none⟩ = some (.slice (some ⟨gi, 0, none⟩) (m + 1) (m + 1))) (by kernel_rfl) (by kernel_rfl) (fun d _ _ _ _ h => by cases d <;> exact h) ⟨hD.out.below (Below.refl _ _).drew, f5⟩ ?_
          apply Exists.intro
          simp only [List.map_cons, List.map_nil, List.getD_cons_zero, List.getD_cons_succ]
          refine ⟨⟨.slice (some ⟨K + 2, 0, none⟩) (m2 + 1) (m2 + 1), Or.inl ⟨by rfl, fun W hW => by have p := ((DF.out _ _ hW.1).2.2.1); go_simp⟩, _, Or.inl ⟨by rfl, fun W hW => by go_simp; rfl⟩, .pointer (some ⟨K + 2, i, none⟩), Or.inl ⟨by rfl, fun W hW => by go_simp⟩, .slice (some ⟨gi, 0, none⟩) (m + 1) (m + 1), Or.inl ⟨by rfl, fun W hW => by have p := hW.2; go_simp⟩, _, Or.inl ⟨by rfl, fun W hW => by go_simp; rfl⟩, _, Or.inl ⟨by rfl, fun W hW => by go_simp; rfl⟩, _, Or.inl ⟨by rfl, fun W hW => by go_simp; rfl⟩, _, Or.inl ⟨by rfl, fun W hW => by go_simp; rfl⟩, rfl⟩, ?_⟩
          simp only [Act.put, List.setIfInBounds_toArray, List.set_cons_zero, List.set_cons_succ]
          refine wpMid_step rfl (fun K9 hK => ?_)
          go_simp
          go_wp2_with (first | (go_at_call 72; refine (HMO.out _ (hD.out.below (Below.refl _ _).drew)).mono ?_; rintro e w7 ⟨⟨b, rfl, _, _, _⟩, h7⟩; have H7 := hid ((Below.refl wr.heap.size wr).drew.trans h7); clear h7))
          refine hK.out _ _ ⟨hD.out.below H7.out, cell_keep H7.out f5⟩ ?_
          clear hK K9
          simp only [wpMid]
          refine ⟨⟨hD.out.below H7.out, cell_keep H7.out f5⟩, _, ⟨.bool (decide (0 ≤ b)), Or.inl ⟨by rfl, fun W hW => by go_simp⟩, .pointer (some ⟨gi, p, none⟩), Or.inl ⟨by rfl, fun W hW => by go_simp⟩, rfl⟩, ?_⟩
          simp only [Act.put, List.setIfInBounds_toArray, List.set_cons_zero, List.set_cons_succ]
          have hD7 := hD.out.below H7.out
          obtain ⟨_, _, _, f4⟩ := DF.out _ _ hD7
          obtain ⟨gi2, _, f8, f9⟩ := f4 i (Nat.le_refl _) (by omega)
          have f10 := cell_keep H7.out f5
          rw [f8] at f10
          injection f10 with f10
          injection f10 with f10 _ _
          injection f10 with f10
          injection f10 with f10 _ _
          subst f10
          obtain ⟨⟨u9, s1⟩, s2⟩ := f9 p (by omega)
          have D8 := hid (hD7.setb (p := p) HGI.out (decide (0 ≤ b)))
          have HB8 := hid (show Below w.heap.size w (w7.setCell ⟨gi2, p, none⟩ (.bool (decide (0 ≤ b)))) from (hB.out.trans (H7.out.mono hB.out.size)).setCell (p := ⟨gi2, p, none⟩) (by have := HKK.out; have := HGI.out; show w.heap.size ≤ gi2; omega) _)
          clear f4 f9 hD7 f8
          go_wp2_with fail
          go_roundw
          case rel => exact ⟨p + 1, by omega, by go_num, D8, HB8⟩
          case measure => simp [intOf]; omega
        · obtain rfl : p = m + 1 := by omega
          have q1 : decide (((m + 1 : Nat) : Int) < (m : Int) + 1) = false := decide_eq_false (by omega)
          go_wp2_with fail
          go_roundw
          case rel => exact ⟨i, by omega, by go_num, hD, hB⟩
          case measure => simp [intOf]
end Go.Proofs.Ytaoddenadfmdbaa
