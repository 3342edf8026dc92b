/- WALK: figures put their leaves and rings into a slice that grows: a leaf, two leaves one over the other. -/
import Derived.Test.YtimblabaeclhpaaGreatFigR
import Derived.Test.YtimblabaeclhpaaGreatLayL
namespace Go.Proofs.YtimblabaeclhpaaGreat
open Go.RowKit
/-- A spot, as five cells: in quarters of the natural unit. -/
def spQ (s : Spot) : List Value := [.int .i64 s.node, .int .i64 (4 * s.x), .int .i64 (4 * s.y), .int .i64 (4 * s.w), .int .i64 (4 * s.h)]
def flat5 (L : List Spot) : List Value := L.flatMap spQ
theorem flat5_app (L M : List Spot) : flat5 (L ++ M) = flat5 L ++ flat5 M := List.flatMap_append ..
theorem flat5_one (s : Spot) : flat5 [s] = spQ s := by unfold flat5; simp
/-- What a put leaves behind: the row has grown, all else is as it was. -/
structure PutR (B : Nat) (W : World) (s : Value) (L : List Spot) (w' : World) (s' : Value) : Prop where
  own : w'.ownsRow B 115 5 s' L.length (flat5 L)
  gr : W.grownBy w' s.ownBlock
  nw : ∀ q, s'.ownBlock = some q → s.ownBlock = some q ∨ W.heap.size ≤ q
theorem grown_pre {W W4 w5 : World} {o : Option Nat} (hb : Below W.heap.size W W4) (hg : W4.grownBy w5 o) : W.grownBy w5 o :=
  ⟨hb.os.symm ▸ hg.os, hb.tape.symm ▸ hg.tape, hb.output.symm ▸ hg.output, Nat.le_trans hb.size hg.size, fun k hk hne => (hg.block k (Nat.lt_of_lt_of_le hk hb.size) hne).trans (hb.block k hk)⟩
/-- One put behind another. -/
theorem PutR.next {B : Nat} {W w1 w2 : World} {s s1 s2 : Value} {L1 L2 : List Spot} (h1 : PutR B W s L1 w1 s1) (h2 : PutR B w1 s1 L2 w2 s2) : PutR B W s L2 w2 s2 := by
  have z1 := h1.gr.size; have z2 := h2.gr.size
  refine ⟨h2.own, ⟨h2.gr.os.trans h1.gr.os, h2.gr.tape.trans h1.gr.tape, h2.gr.output.trans h1.gr.output, Nat.le_trans z1 z2, fun k hk hne => ?_⟩, fun q hq => ?_⟩
  · refine (h2.gr.block k (by omega) fun e => ?_).trans (h1.gr.block k hk hne)
    rcases h1.nw k e.symm with h | h
    · exact hne h.symm
    · omega
  · rcases h2.nw q hq with h | h
    · exact h1.nw q h
    · exact .inr (by omega)
theorem PutR.pre {B : Nat} {W W1 w2 : World} {s s2 : Value} {L : List Spot} (hb : Below W.heap.size W W1) (h : PutR B W1 s L w2 s2) : PutR B W s L w2 s2 :=
  ⟨h.own, grown_pre hb h.gr, fun q hq => (h.nw q hq).imp id (Nat.le_trans hb.size)⟩
theorem Tryz.underSpots : Tryz.prog.underlying 109 = some (.slice 115) := by kernel_rfl
theorem Tryz.infoSpot : (Tryz.prog.info? 115).map (fun i => (i.zero, i.size, i.bytes)) = some (some (.agg #[.int .i64 0, .int .i64 0, .int .i64 0, .int .i64 0, .int .i64 0]), 5, 40) := by kernel_rfl
theorem spot_in {W : World} {X : Obj} {a b c d e : Value} {T : TypeId} : ∀ j u, [a, b, c, d, e][j]? = some u → ((W.alloc X).alloc (.cells #[a, b, c, d, e] T)).cell? ((⟨W.heap.size + 1, 0, none⟩ : Addr).add j) = some u := by
  intro j u h
  rw [Addr.add_lit]
  refine cell_here (by simp) ?_
  simpa using h
set_option maxRecDepth 100000 in
set_option maxHeartbeats 2000000 in
theorem leafPut_any (nn : Nat) (zw zh : Int) (h1 : 0 ≤ zw) (h2 : zw ≤ 1000000) (h3 : 0 ≤ zh) (h4 : zh ≤ 1000000) (B : Nat) (s : Value) (L : List Spot) (x y X Y : Int) (hX : X = 4 * x) (hY : Y = 4 * y) (W : World) (hB : B ≤ W.heap.size) (hown : W.ownsRow B 115 5 s L.length (flat5 L)) (hL : L.length ≤ 1000000) :
    Calls Tryz.prog 123 #[.agg #[.int .i64 nn, .int .i64 zw, .int .i64 zh], s, .int .i64 X, .int .i64 Y] W fun e w' => ∃ s', e = .returned s' ∧ PutR B W s (L ++ [⟨nn, x, y, zw, zh⟩]) w' s' := by
  have HO := hid fun (X Y : Obj) => own_keep hown (((Below.refl W.heap.size W).alloc (Nat.le_refl _) X).alloc (by simp) Y)
  have HB := hid fun (X Y : Obj) => (((Below.refl W.heap.size W).alloc (Nat.le_refl _) X).alloc (by simp) Y)
  have HE := hid (show flat5 L ++ [.int .i64 nn, .int .i64 X, .int .i64 Y, .int .i64 (4 * zw), .int .i64 (4 * zh)] = flat5 (L ++ [⟨nn, x, y, zw, zh⟩]) from by rw [flat5_app, flat5_one, hX, hY]; rfl)
  have HSI := hid fun (X1 : Obj) => spot_in (W := W) (X := X1) (a := .int .i64 nn) (b := .int .i64 X) (c := .int .i64 Y) (d := .int .i64 (4 * zw)) (e := .int .i64 (4 * zh)) (T := 115)
  clear hX hY hown
  go_enter Tryz.func123, Tryz.ntmps123
  go_wp2_with (first | (at_builtin; go_loud (refine app_elemF rfl (.tmp 9) (.tmp 21) Tryz.underSpots Tryz.infoSpot rfl (by decide) (by decide) rfl B _ L.length (flat5 L) rfl (HO.out _ _) ⟨W.heap.size + 1, 0, none⟩ [.int .i64 nn, .int .i64 X, .int .i64 Y, .int .i64 (4 * zw), .int .i64 (4 * zh)] rfl rfl (fun j u h => HSI.out _ j u h) (fun u hu => by simp at hu; rcases hu with rfl | rfl | rfl | rfl | rfl <;> rfl) (by omega) (by simp; omega) ?_); intro v5 w5 ho5 hg5 hf5; rw [HE.out] at ho5; have HO5 := hid ho5; have HG5 := hid hg5; have HF5 := hid hf5; clear ho5 hg5 hf5))
  go_ret
  exact ⟨_, rfl, ⟨by rw [List.length_append]; exact HO5.out, grown_pre (HB.out _ _) HG5.out, fun q hq => (HF5.out q hq).imp id (Nat.le_trans (HB.out _ _).size)⟩⟩
/-- A row's block is none of the blocks behind. -/
theorem PutR.cell {B : Nat} {W w' : World} {s s' : Value} {L M : List Spot} (h : PutR B W s M w' s') {V : World} (ho : V.ownsRow B 115 5 s L.length (flat5 L)) {b k : Nat} (hb : V.heap.size ≤ b) (hl : b < W.heap.size) : w'.cell? ⟨b, k, none⟩ = W.cell? ⟨b, k, none⟩ :=
  World.cell?_of_block (a := ⟨b, k, none⟩) (h.gr.block b hl fun e => by have := (ho.lt b e.symm).2; omega)
set_option maxRecDepth 100000 in
set_option maxHeartbeats 4000000 in
theorem overPut_any (n1 n2 : Nat) (zw zh uw uh : Int) (h1 : 0 ≤ zw) (h2 : zw ≤ 1000000) (h3 : 0 ≤ zh) (h4 : zh ≤ 1000000) (h5 : zw % 4 = 0) (h6 : zh % 4 = 0) (B : Nat) (s : Value) (L : List Spot) (x y X Y : Int) (hX : X = 4 * x) (hY : Y = 4 * y) (hX0 : 0 ≤ X) (hX1 : X ≤ 100000000000000) (hY0 : 0 ≤ Y) (hY1 : Y ≤ 100000000000000) (W : World) (hB : B ≤ W.heap.size) (hown : W.ownsRow B 115 5 s L.length (flat5 L)) (hL : L.length ≤ 900000) :
    Calls Tryz.prog 125 #[.agg #[.int .i64 n1, .int .i64 zw, .int .i64 zh, .int .i64 n2, .int .i64 uw, .int .i64 uh], s, .int .i64 X, .int .i64 Y] W fun e w' => ∃ s', e = .returned s' ∧ PutR B W s (L ++ [⟨n1, x, y, zw, zh⟩, ⟨n2, x + zw / 4, y + zh / 4, zw / 2, zh / 2⟩]) w' s' := by
  obtain ⟨w1, hw1⟩ : ∃ w1, w1 = W.alloc (.cells #[.int .i64 n1, .int .i64 zw, .int .i64 zh, .int .i64 n2, .int .i64 uw, .int .i64 uh] 145) := ⟨_, rfl⟩
  have hb1 : Below W.heap.size W w1 := by rw [hw1]; exact (Below.refl _ _).alloc (Nat.le_refl _) _
  have hz1 : w1.heap.size = W.heap.size + 1 := by rw [hw1]; simp
  have c0 : w1.cell? ⟨W.heap.size, 0, none⟩ = some (.int .i64 n1) := by rw [hw1]; exact cell_here rfl rfl
  have c1 : w1.cell? ⟨W.heap.size, 1, none⟩ = some (.int .i64 zw) := by rw [hw1]; exact cell_here rfl rfl
  have c2 : w1.cell? ⟨W.heap.size, 2, none⟩ = some (.int .i64 zh) := by rw [hw1]; exact cell_here rfl rfl
  have c3 : w1.cell? ⟨W.heap.size, 3, none⟩ = some (.int .i64 n2) := by rw [hw1]; exact cell_here rfl rfl
  have HSZ := hid fun (V : World) => leafSize_any n1 zw zh V
  have HC := hid fun (V : World) (h : Below w1.heap.size w1 V) => (show V.cell? ⟨W.heap.size, 0, none⟩ = some (.int .i64 n1) ∧ V.cell? ⟨W.heap.size, 1, none⟩ = some (.int .i64 zw) ∧ V.cell? ⟨W.heap.size, 2, none⟩ = some (.int .i64 zh) ∧ V.cell? ⟨W.heap.size, 3, none⟩ = some (.int .i64 n2) from
    ⟨(h.cell (by show W.heap.size < _; omega)).trans c0, (h.cell (by show W.heap.size < _; omega)).trans c1, (h.cell (by show W.heap.size < _; omega)).trans c2, (h.cell (by show W.heap.size < _; omega)).trans c3⟩)
  have HPU := hid fun (V : World) (h : Below w1.heap.size w1 V) => (leafPut_any n1 zw zh h1 h2 h3 h4 B s L x y X Y hX hY V (by have := hb1.size; have := h.size; omega) (own_keep (own_keep hown hb1) h) (by omega)).mono fun (e : Ending) (w' : World) ⟨s', e1, e2⟩ =>
    (show ∃ s' : Value, e = Ending.returned s' ∧ PutR B W s (L ++ [(⟨n1, x, y, zw, zh⟩ : Spot)]) w' s' ∧ World.cell? w' ⟨W.heap.size, 3, none⟩ = some (Value.int .i64 n2) from
      ⟨s', e1, e2.pre (hb1.trans (h.mono hb1.size)), (e2.cell hown (Nat.le_refl _) (by have := h.size; omega)).trans (HC.out V h).2.2.2⟩)
  have HE := hid (show flat5 (L ++ [(⟨n1, x, y, zw, zh⟩ : Spot)]) ++ [.int .i64 n2, .int .i64 (X + zw), .int .i64 (Y + zh), .int .i64 (2 * zw), .int .i64 (2 * zh)] = flat5 ((L ++ [(⟨n1, x, y, zw, zh⟩ : Spot)]) ++ [(⟨n2, x + zw / 4, y + zh / 4, zw / 2, zh / 2⟩ : Spot)]) from by
    have g1 : X + zw = 4 * (x + zw / 4) := by omega
    have g2 : Y + zh = 4 * (y + zh / 4) := by omega
    have g3 : 2 * zw = 4 * (zw / 2) := by omega
    have g4 : 2 * zh = 4 * (zh / 2) := by omega
    rw [flat5_app (L ++ [(⟨n1, x, y, zw, zh⟩ : Spot)]), flat5_one, g1, g2, g3, g4]; rfl)
  have HEL := hid (show L ++ [(⟨n1, x, y, zw, zh⟩ : Spot), ⟨n2, x + zw / 4, y + zh / 4, zw / 2, zh / 2⟩] = (L ++ [(⟨n1, x, y, zw, zh⟩ : Spot)]) ++ [(⟨n2, x + zw / 4, y + zh / 4, zw / 2, zh / 2⟩ : Spot)] from by rw [List.append_assoc]; rfl)
  have HLL := hid (show (L ++ [(⟨n1, x, y, zw, zh⟩ : Spot)]).length ≤ 1000000 ∧ (L ++ [(⟨n1, x, y, zw, zh⟩ : Spot)]).length + 1 = (L ++ [(⟨n1, x, y, zw, zh⟩ : Spot), ⟨n2, x + zw / 4, y + zh / 4, zw / 2, zh / 2⟩]).length from by simp; omega)
  rw [HEL.out]
  rw [HEL.out] at HLL
  generalize L ++ [(⟨n1, x, y, zw, zh⟩ : Spot)] = L1 at HPU HE HLL ⊢
  generalize ([⟨n2, x + zw / 4, y + zh / 4, zw / 2, zh / 2⟩] : List Spot) = L2 at HE HLL ⊢
  have HW1 := hid hw1; have HB1 := hid hb1
  have hBz := hid hB
  clear hX hY hown hw1 hb1 hL hz1 HEL h5 h6 hB
  go_enter Tryz.func125, Tryz.ntmps125
  go_upto_region 1 with (fail)
  rw [← HW1.out]
  clear HW1
  obtain ⟨B0, hB0⟩ : ∃ B0, B0 = W.heap.size := ⟨_, rfl⟩
  rw [← hB0] at c0 c1 c2 c3 HC HPU
  rw [← hB0]
  clear hB0
  go_wp2_with (first | (go_at_call 124; refine (HSZ.out _).mono ?_; rintro e w2 ⟨rfl, hb2⟩; have HB2 := hid hb2; obtain ⟨q0, q1, q2, q3⟩ := HC.out w2 hb2; clear hb2 c0 c1 c2 c3) | (go_at_call 123; refine (HPU.out w2 HB2.out).mono ?_; rintro e w3 ⟨s3, rfl, hp3, c3⟩; have HP3 := hid hp3; have HO3 := hid (fun (X : Obj) => own_keep hp3.own ((Below.refl w3.heap.size w3).alloc (Nat.le_refl _) X)); clear hp3 q0 q1 q2 q3) | (at_builtin; go_loud (refine app_elemF rfl (.tmp 23) (.tmp 38) Tryz.underSpots Tryz.infoSpot rfl (by decide) (by decide) rfl B _ L1.length (flat5 L1) rfl (HO3.out _) ⟨w3.heap.size, 0, none⟩ [.int .i64 n2, .int .i64 (X + zw), .int .i64 (Y + zh), .int .i64 (2 * zw), .int .i64 (2 * zh)] rfl rfl (fun j u h => by rw [Addr.add_lit]; exact cell_here rfl (by simpa using h)) (fun u hu => by simp at hu; rcases hu with rfl | rfl | rfl | rfl | rfl <;> rfl) (by have := HLL.out.1; omega) (by have h1 := HP3.out.gr.size; have h2 := hBz.out; simp; omega) ?_); intro v5 w5 ho5 hg5 hf5; rw [HE.out, HLL.out.2] at ho5; have HO5 := hid ho5; have HG5 := hid hg5; have HF5 := hid hf5; clear ho5 hg5 hf5))
  go_ret
  exact ⟨_, rfl, PutR.next HP3.out ⟨HO5.out, grown_pre ((Below.refl w3.heap.size w3).alloc (Nat.le_refl _) _) HG5.out, fun q hq => (HF5.out q hq).imp id (fun h => by simp at h; omega)⟩⟩
end Go.Proofs.YtimblabaeclhpaaGreat

/- WALK: what a figure puts, known through the interface; a ring. -/
namespace Go.Proofs.YtimblabaeclhpaaGreat
open Go.RowKit
/-- A figure of which it is known what it puts, asked anywhere behind a world, into a row behind that world. -/
def PutC (W0 : World) (v : Value) (S : Int → Int → List Spot) (n : Nat) (M : Int) : Prop := ∃ (T : TypeId) (r : Value) (K : Nat), v = .iface T r ∧ (∀ (k : Nat) (w : World), (method (k + 1) T r "ostracon/grid.put").run Tryz.prog w = .ok (K, r) w) ∧ (∀ (a b c : Value) (w : World), (callFunc K #[r, a, b, c]).run Tryz.prog w = .ok (.enter K #[r, a, b, c]) w) ∧
  ∀ W, Below W0.heap.size W0 W → ∀ (B : Nat) (s : Value) (L : List Spot) (x y X Y : Int), X = 4 * x → Y = 4 * y → 0 ≤ X → X ≤ M → 0 ≤ Y → Y ≤ M → W0.heap.size ≤ B → B ≤ W.heap.size → W.ownsRow B 115 5 s L.length (flat5 L) → L.length + n ≤ 900000 →
    Calls Tryz.prog K #[r, s, .int .i64 X, .int .i64 Y] W fun e w' => ∃ s', e = .returned s' ∧ PutR B W s (L ++ S x y) w' s'
theorem PutC.below {W W' : World} {v : Value} {S : Int → Int → List Spot} {n : Nat} {M : Int} (h : PutC W v S n M) (hb : Below W.heap.size W W') : PutC W' v S n M := by
  obtain ⟨T, r, K, e, hm, hf, hc⟩ := h
  exact ⟨T, r, K, e, hm, hf, fun V hV B s L x y X Y a1 a2 a3 a4 a5 a6 a7 a8 a9 a10 => hc V (hb.trans (hV.mono hb.size)) B s L x y X Y a1 a2 a3 a4 a5 a6 (Nat.le_trans hb.size a7) a8 a9 a10⟩
theorem putc_leaf (W : World) (M : Int) (nn : Nat) (zw zh : Int) (h1 : 0 ≤ zw) (h2 : zw ≤ 1000000) (h3 : 0 ≤ zh) (h4 : zh ≤ 1000000) : PutC W (.iface 142 (.agg #[.int .i64 nn, .int .i64 zw, .int .i64 zh])) (fun x y => [⟨nn, x, y, zw, zh⟩]) 1 M :=
  ⟨142, _, 123, rfl, fun _ _ => by kernel_rfl, fun _ _ _ _ => by kernel_rfl, fun V _ B s L x y X Y hX hY _ _ _ _ _ hB ho hL => leafPut_any nn zw zh h1 h2 h3 h4 B s L x y X Y hX hY V hB ho (by omega)⟩
theorem putc_over (W : World) (M : Int) (hM : M ≤ 100000000000000) (n1 n2 : Nat) (zw zh uw uh : Int) (h1 : 0 ≤ zw) (h2 : zw ≤ 1000000) (h3 : 0 ≤ zh) (h4 : zh ≤ 1000000) (h5 : zw % 4 = 0) (h6 : zh % 4 = 0) : PutC W (.iface 145 (.agg #[.int .i64 n1, .int .i64 zw, .int .i64 zh, .int .i64 n2, .int .i64 uw, .int .i64 uh])) (fun x y => [⟨n1, x, y, zw, zh⟩, ⟨n2, x + zw / 4, y + zh / 4, zw / 2, zh / 2⟩]) 2 M :=
  ⟨145, _, 125, rfl, fun _ _ => by kernel_rfl, fun _ _ _ _ => by kernel_rfl, fun V _ B s L x y X Y hX hY a1 a2 a3 a4 _ hB ho hL => overPut_any n1 n2 zw zh uw uh h1 h2 h3 h4 h5 h6 B s L x y X Y hX hY a1 (by omega) a3 (by omega) V hB ho (by omega)⟩
/-- Below a row's base nothing changes. -/
theorem PutR.bel {B : Nat} {W w' : World} {s s' : Value} {L M : List Spot} (h : PutR B W s M w' s') (ho : W.ownsRow B 115 5 s L.length (flat5 L)) (hB : B ≤ W.heap.size) : Below B W w' :=
  below_app (Below.refl B W) ho h.gr (Nat.le_refl _) hB
set_option maxRecDepth 100000 in
set_option maxHeartbeats 4000000 in
theorem ringPut_any (nn : Nat) (u : Value) (z : Int × Int) (S : Int → Int → List Spot) (n : Nat) (M M' : Int) (hM : M + 48 ≤ M') (hM' : M' ≤ 100000000000000) (h1 : 0 ≤ z.1) (h2 : z.1 ≤ 1000000) (h3 : 0 ≤ z.2) (h4 : z.2 ≤ 1000000) (W0 : World) (hs : SzC W0 u z) (hp : PutC W0 u S n M') (W : World) (hbW : Below W0.heap.size W0 W) (B : Nat) (s : Value) (L : List Spot) (x y X Y : Int) (hX : X = 4 * x) (hY : Y = 4 * y) (hX0 : 0 ≤ X) (hX1 : X ≤ M) (hY0 : 0 ≤ Y) (hY1 : Y ≤ M) (hB0 : W0.heap.size ≤ B) (hB : B ≤ W.heap.size) (hown : W.ownsRow B 115 5 s L.length (flat5 L)) (hL : L.length + (n + 1) ≤ 900000) :
    Calls Tryz.prog 127 #[.agg #[.int .i64 nn, u], s, .int .i64 X, .int .i64 Y] W fun e w' => ∃ s', e = .returned s' ∧ PutR B W s (L ++ ⟨nn, x, y, z.1 + 24, z.2 + 24⟩ :: S (x + 12) (y + 12)) w' s' := by
  obtain ⟨w1, hw1⟩ : ∃ w1, w1 = W.alloc (.cells #[.int .i64 nn, u] 147) := ⟨_, rfl⟩
  have hb1 : Below W.heap.size W w1 := by rw [hw1]; exact (Below.refl _ _).alloc (Nat.le_refl _) _
  have hz1 : w1.heap.size = W.heap.size + 1 := by rw [hw1]; simp
  have c0 : w1.cell? ⟨W.heap.size, 0, none⟩ = some (.int .i64 nn) := by rw [hw1]; exact cell_here rfl rfl
  have c1 : w1.cell? ⟨W.heap.size, 1, none⟩ = some u := by rw [hw1]; exact cell_here rfl rfl
  have HSZ := hid (ringSize_any nn u z h1 (by omega) h3 (by omega) w1 ((hs.below hbW).below hb1))
  have HC := hid fun (V : World) (h : Below w1.heap.size w1 V) => (show V.cell? ⟨W.heap.size, 0, none⟩ = some (.int .i64 nn) ∧ V.cell? ⟨W.heap.size, 1, none⟩ = some u from
    ⟨(h.cell (by show W.heap.size < _; omega)).trans c0, (h.cell (by show W.heap.size < _; omega)).trans c1⟩)
  have hsz0 := hbW.size
  have HNX := hid fun (w2 w4 w5 : World) (v5 : Value) (h2 : Below w1.heap.size w1 w2) (h24 : Below w2.heap.size w2 w4) (ho5 : w5.ownsRow B 115 5 v5 (L.length + 1) (flat5 L ++ [.int .i64 nn, .int .i64 X, .int .i64 Y, .int .i64 (4 * (z.1 + 24)), .int .i64 (4 * (z.2 + 24))])) (hg5 : w4.grownBy w5 s.ownBlock) (hf5 : ∀ q, v5.ownBlock = some q → s.ownBlock = some q ∨ w4.heap.size ≤ q) =>
    (show PutR B W s (L ++ [(⟨nn, x, y, z.1 + 24, z.2 + 24⟩ : Spot)]) w5 v5 ∧ World.cell? w5 ⟨W.heap.size, 1, none⟩ = some u ∧ Below W0.heap.size W0 w5 from by
      have hW4 : Below W.heap.size W w4 := (hb1.trans (h2.mono hb1.size)).trans (h24.mono (by have := h2.size; omega))
      have hpr : PutR B W s (L ++ [(⟨nn, x, y, z.1 + 24, z.2 + 24⟩ : Spot)]) w5 v5 := by
        refine ⟨?_, grown_pre hW4 hg5, fun q hq => (hf5 q hq).imp id (Nat.le_trans hW4.size)⟩
        rw [List.length_append, flat5_app, flat5_one]
        have e : spQ (⟨nn, x, y, z.1 + 24, z.2 + 24⟩ : Spot) = [.int .i64 nn, .int .i64 X, .int .i64 Y, .int .i64 (4 * (z.1 + 24)), .int .i64 (4 * (z.2 + 24))] := by rw [hX, hY]; rfl
        rw [e]
        exact ho5
      refine ⟨hpr, ?_, hbW.trans ((hpr.bel hown hB).mono hB0)⟩
      have hlt4 : W.heap.size < w4.heap.size := by have := h2.size; have := h24.size; omega
      refine (World.cell?_of_block (a := ⟨W.heap.size, 1, none⟩) (hg5.block W.heap.size hlt4 fun e => by have := (hown.lt _ e.symm).2; omega)).trans ?_
      exact (h24.cell (p := ⟨W.heap.size, 1, none⟩) (by show W.heap.size < _; have := h2.size; omega)).trans (HC.out w2 h2).2)
  obtain ⟨T, r, K, rfl, hm, hf, hc⟩ := hp
  have hm2 := hm 295
  have HPC := hid fun (w5 : World) (v5 : Value) (hb : Below W0.heap.size W0 w5) (hpr : PutR B W s (L ++ [(⟨nn, x, y, z.1 + 24, z.2 + 24⟩ : Spot)]) w5 v5) => (hc w5 hb B v5 _ (x + 12) (y + 12) (X + 48) (Y + 48) (by omega) (by omega) (by omega) (by omega) (by omega) (by omega) hB0 (by have := hpr.gr.size; omega) hpr.own (by simp; omega)).mono fun (e : Ending) (w' : World) ⟨s', e1, e2⟩ =>
    (show ∃ s' : Value, e = Ending.returned s' ∧ PutR B W s (L ++ (⟨nn, x, y, z.1 + 24, z.2 + 24⟩ : Spot) :: S (x + 12) (y + 12)) w' s' from ⟨s', e1, by have h := hpr.next e2; rw [List.append_assoc] at h; exact h⟩)
  have HO := hid fun (w2 : World) (h2 : Below w1.heap.size w1 w2) (X : Obj) => own_keep (own_keep (own_keep hown hb1) h2) ((Below.refl w2.heap.size w2).alloc (Nat.le_refl _) X)
  have HZ := hid fun (w2 : World) (h2 : Below w1.heap.size w1 w2) => (show B ≤ w2.heap.size from by have := h2.size; omega)
  obtain ⟨z1, z2⟩ := z
  simp only [] at h1 h2 h3 h4 HSZ HNX HPC ⊢
  have HW1 := hid hw1; have HL := hid hL
  clear hX hY hown hw1 hb1 hL hz1 hs hc hm hbW hB0 hB hsz0
  go_enter Tryz.func127, Tryz.ntmps127
  go_upto_region 1 with (fail)
  rw [← HW1.out]
  clear HW1
  obtain ⟨B0, hB0⟩ : ∃ B0, B0 = W.heap.size := ⟨_, rfl⟩
  rw [← hB0] at c0 c1 HC HNX
  rw [← hB0]
  clear hB0
  go_wp2_with (first | (go_at_call 128; refine HSZ.out.mono ?_; rintro e w2 ⟨rfl, hb2⟩; have HB2 := hid hb2; have HO2 := hid (HO.out w2 hb2); have HZ2 := hid (HZ.out w2 hb2); obtain ⟨q0, q1⟩ := HC.out w2 hb2; clear hb2 c0 c1) | (at_builtin; go_loud (refine app_elemF rfl (.tmp 16) (.tmp 26) Tryz.underSpots Tryz.infoSpot rfl (by decide) (by decide) rfl B _ L.length (flat5 L) rfl (HO2.out _) ⟨w2.heap.size, 0, none⟩ [.int .i64 nn, .int .i64 X, .int .i64 Y, .int .i64 (4 * (z1 + 24)), .int .i64 (4 * (z2 + 24))] rfl rfl (fun j u h => by rw [Addr.add_lit]; exact cell_here rfl (by simpa using h)) (fun u hu => by simp at hu; rcases hu with rfl | rfl | rfl | rfl | rfl <;> rfl) (by have := HL.out; omega) (by have h2 := HZ2.out; simp; omega) ?_); intro v5 w5 ho5 hg5 hf5; obtain ⟨hp5, c5, hb5⟩ := HNX.out w2 _ w5 v5 HB2.out ((Below.refl w2.heap.size w2).alloc (Nat.le_refl _) _) ho5 hg5 hf5; have HC5 := hid (HPC.out w5 v5 hb5 hp5); clear ho5 hg5 hf5 hp5 hb5 q0 q1) | (refine HC5.out.mono ?_; rintro e w6 ⟨s6, rfl, hp6⟩; have HP6 := hid hp6; clear hp6))
  go_ret
  exact ⟨_, rfl, HP6.out⟩
theorem putc_ring (W0 : World) (nn : Nat) (u : Value) (z : Int × Int) (S : Int → Int → List Spot) (n : Nat) (M M' : Int) (hM : M + 48 ≤ M') (hM' : M' ≤ 100000000000000) (h1 : 0 ≤ z.1) (h2 : z.1 ≤ 1000000) (h3 : 0 ≤ z.2) (h4 : z.2 ≤ 1000000) (hs : SzC W0 u z) (hp : PutC W0 u S n M') : PutC W0 (.iface 147 (.agg #[.int .i64 nn, u])) (fun x y => ⟨nn, x, y, z.1 + 24, z.2 + 24⟩ :: S (x + 12) (y + 12)) (n + 1) M :=
  ⟨147, _, 127, rfl, fun _ _ => by kernel_rfl, fun _ _ _ _ => by kernel_rfl, fun V hV B s L x y X Y hX hY a1 a2 a3 a4 a5 hB ho hL => ringPut_any nn u z S n M M' hM hM' h1 h2 h3 h4 W0 hs hp V hV B s L x y X Y hX hY a1 a2 a3 a4 a5 hB ho hL⟩
end Go.Proofs.YtimblabaeclhpaaGreat
