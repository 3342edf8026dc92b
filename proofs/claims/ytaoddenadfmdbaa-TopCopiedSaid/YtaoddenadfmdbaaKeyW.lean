/- WALK: key. -/
import Derived.Test.YtaoddenadfmdbaaClosL
import Derived.Laws.Cover4
import Derived.Test.YtaoddenadfmdbaaSgn7
namespace Go.Proofs.Ytaoddenadfmdbaa
open Go.RowKit Go.Maps
theorem Try.infoRune : (Try.prog.info? 21).map (fun i => (i.zero, i.size, i.bytes)) = some (some (.int .i32 0), 1, 4) := by kernel_rfl
def runeL (S : List Nat) : List Int := S.map fun x : Nat => (x : Int) + 1
def runeV (S : List Nat) : List Value := (runeL S).map fun x => .int .i32 x
theorem runeV_snoc (S : List Nat) (x : Nat) : runeV (S ++ [x]) = runeV S ++ [.int .i32 ((x : Int) + 1)] := by simp [runeV, runeL]
set_option maxRecDepth 100000 in
set_option maxHeartbeats 1000000 in
theorem key_any (S : List Nat) (hS : S.length ≤ 1000) (hx : ∀ x ∈ S, x ≤ 1000) (A : Option Addr) (c : Nat) (w : World) (r : Rd w w.heap.size A (nzL S)) :
    Calls Try.prog 55 #[.slice A S.length c] w fun e w' => ∃ s : ByteArray, e = .returned (.string s) ∧ s.size ≤ 4000 ∧ Below w.heap.size w w' := by
  obtain ⟨m, hm⟩ : ∃ m, m = S.length := ⟨_, rfl⟩
  rw [← hm] at hS ⊢
  have R := hid r; have HM := hid hm; have HXX := hid hx
  clear r hm hx
  go_enter Try.func55, Try.ntmps55
  go_wp2_with fail
  go_loopw [3, 8] (fun v3 jv wr => ∃ j : Nat, j ≤ m ∧ jv = .int .i64 (j : Int) ∧ Hid (wr.ownsRow w.heap.size 21 1 v3 j (runeV (S.take j))) ∧ Hid (Below w.heap.size w wr)) (fun _ jv _ => m - (intOf jv).toNat)
  case atStart => exact ⟨0, by omega, rfl, hid (World.ownsRow_nil _ _ _ _), hid (Below.refl _ _)⟩
  case round =>
    obtain ⟨j, hj, rfl, hO, hB⟩ := hrel
    by_cases hjm : j < m
    · have hjS : j < S.length := by rw [← HM.out]; exact hjm
      obtain ⟨b, o, rfl, _, hcel⟩ := (R.out.below hB.out).at (by rw [nzL_len]; omega)
      have p1 := hcel j (by rw [nzL_len]; exact hjS)
      rw [nzL_nth hjS] at p1
      have hxl := HXX.out _ (List.getElem_mem hjS)
      have HTK := hid (show S.take (j + 1) = S.take j ++ [S[j]'hjS] by rw [List.take_add_one, List.getElem?_eq_getElem hjS]; rfl)
      generalize S[j]'hjS = x at p1 HTK hxl
      have q0 : (j : Int) < (m : Int) := by omega
      have hwr : IntKind.i32.wrap ((x : Int) + 1) = (x : Int) + 1 := IntWalk.i32_in _ (by omega)
      clear hcel hjS
      have HB := hid hB.out
      obtain ⟨xe, hxe⟩ : ∃ y : Int, y = (x : Int) + 1 := ⟨_, rfl⟩
      have hw32 : wrap32 xe = xe := by unfold wrap32; omega
      have hw64 : wrap64 ((x : Int) + 1) = xe := by unfold wrap64; omega
      have HXE := hid hxe
      have hj2 : j ≤ 10000000000 := by omega
      clear hxe hxl hwr
      go_wp2_with (first
        | (at_builtin; go_loud (refine app_elem rfl (.tmp 12) (.tmp 16) Try.underlying126 Try.infoRune rfl (by decide) (by decide) rfl w.heap.size _ j (runeV (S.take j)) rfl (hO.out.alloc _) ⟨wr.heap.size, 0, none⟩ [.int .i32 xe] rfl rfl (cell_news wr [.int .i32 xe] _) (by simp [Value.oneCell']) hj2 (by have := HB.out.size; simp; omega) ?_); intro v5 w5 ho5 hg5; have HO5 := hid ho5; have HG5 := hid hg5; clear ho5 hg5)
        | go_in)
      have hA : Below wr.heap.size wr (wr.alloc (.cells #[.int .i32 xe] 21)) := (Below.refl _ _).alloc (Nat.le_refl _) _
      have hb5 : Below w.heap.size w w5 := (hB.out.trans (hA.mono hB.out.size)).grown HG5.out (by have := HB.out.size; simp; omega) (fun j hj => (hO.out.lt j hj).1)
      go_roundw
      case rel =>
        refine ⟨j + 1, by omega, by go_num, hid ?_, hid hb5⟩
        rw [HTK.out, runeV_snoc, ← HXE.out]
        exact HO5.out
      case measure => simp [intOf]; omega
    · obtain rfl : j = m := by omega
      have e0 : decide ((j : Int) < (j : Int)) = false := by simp
      have hO2 := hO.out
      rw [show S.take j = S by rw [HM.out]; simp] at hO2
      obtain ⟨A7, c7, rfl⟩ := own_slice hO2
      have hcv : ∃ s : ByteArray, s.size ≤ 4000 ∧ (convert 126 9 (.slice A7 j c7)).run Try.prog wr = .ok (.string s) wr := by
        have hrl : (runeL S).length = j := by unfold runeL; rw [List.length_map]; exact HM.out.symm
        rcases hO2.2 with ⟨h1, h2⟩ | ⟨g, cap, cur, hv, _, hh, _⟩
        · injection h1 with h1 _ _
          subst h1
          exact ⟨_, by decide, run_convert_runes_nil wr _ _ 21 _ _ Try.underlying126 Try.underlying21 Try.underlying9⟩
        · injection hv with e1 _ _
          subst e1
          refine ⟨_, ?_, run_convert_runes wr _ _ 21 ⟨g, 0, none⟩ j c7 (runeL S) (by omega) Try.underlying126 Try.underlying21 Try.underlying9 fun i hi => ?_⟩
          · have := runesBytes_size_le ((runeL S).take j)
            rw [List.length_take] at this
            omega
          · refine hO2.cells rfl i _ ?_
            unfold runeV
            rw [List.getElem?_map, List.getElem?_eq_getElem hi]
            simp [List.getD, hi]
      obtain ⟨s, hs, hcv⟩ := hcv
      have HB := hid hB.out
      clear hO2 hO hB
      go_wp2_with (simp only [hcv])
      go_ret
      exact ⟨s, rfl, hs, HB.out⟩
end Go.Proofs.Ytaoddenadfmdbaa

/- PLAIN LAW and BASE of count: how deep it goes, what its map holds, what it keeps. -/
namespace Go.Proofs.Ytaoddenadfmdbaa
open Go.RowKit Go.Maps
/-- No line that a set reads is longer than f. -/
def Lb (cs : List Cl) (S : List Nat) (f : Nat) : Prop := ∀ T, lang cs S T → T.length ≤ f
theorem st_some {cs : List Cl} {n : Nat} (hc : CsOk cs n) {S : List Nat} (h : St cs S) : ∃ T, lang cs S T ∧ ∀ a ∈ T, 0 ≤ a ∧ a < n := by
  obtain ⟨x, hx⟩ := List.exists_mem_of_ne_nil _ h.ne
  obtain ⟨T, h1, h2⟩ := acc_some hc.ok _ _ _ (posAt_ok (h.ok x hx)) (Nat.le_refl _)
  exact ⟨T, ⟨x, hx, h1⟩, h2⟩
/-- Behind a sign the lines are shorter. -/
theorem Lb.next {cs : List Cl} {n : Nat} (hc : CsOk cs n) {S S' : List Nat} {f : Nat} {a : Int} (h : Lb cs S f) (h' : St cs S') (hl : ∀ T, lang cs S' T ↔ lang cs S (a :: T)) : ∃ f', f = f' + 1 ∧ Lb cs S' f' := by
  obtain ⟨T, h1, _⟩ := st_some hc h'
  have h2 := h _ ((hl T).1 h1)
  rw [List.length_cons] at h2
  refine ⟨f - 1, by omega, fun U hU => ?_⟩
  have := h _ ((hl U).1 hU)
  rw [List.length_cons] at this
  omega
/-- How many entries count can make. -/
def Bc (n : Nat) : Nat → Nat
  | 0 => 1
  | f + 1 => 1 + n * Bc n f
theorem Bc_pos (n f : Nat) : 1 ≤ Bc n f := by cases f <;> simp [Bc]
theorem Bc_le (n : Nat) : ∀ f, Bc n f ≤ (n + 1) ^ f
  | 0 => by simp [Bc]
  | f + 1 => by
    have h1 := Bc_le n f
    have h2 := Bc_pos n f
    rw [Bc, Nat.pow_succ]
    have h3 : 1 + n * Bc n f ≤ Bc n f * (n + 1) := by rw [Nat.mul_add, Nat.mul_one, Nat.mul_comm n]; omega
    exact Nat.le_trans h3 (Nat.mul_le_mul_right _ h1)
/-- What one round adds. -/
def Br (n : Nat) : Nat → Nat
  | 0 => 0
  | f + 1 => Bc n f
theorem Bc_Br (n f : Nat) : Bc n f = 1 + n * Br n f := by cases f <;> simp [Bc, Br]
theorem mul_s (i b : Nat) : (i + 1) * b = i * b + b := Nat.succ_mul i b
/-- What the map of the known numbers holds. -/
structure MemoOk (D : DataW Unit) : Prop where
  map : Maps.IsMap D
  at_ : ∀ t : List UInt8, ∃ c : Int, D.atKey (.string t) (.lit (.int .i64 0)) = .lit (.int .i64 c) ∧ (c = 0 ∨ (2 ≤ c ∧ c ≤ 1099511627777))
theorem MemoOk.nil : MemoOk (.map []) := ⟨⟨_, rfl⟩, fun _ => ⟨0, rfl, .inl rfl⟩⟩
theorem MemoOk.add {D : DataW Unit} (h : MemoOk D) (t : List UInt8) {c : Int} (hc : 2 ≤ c ∧ c ≤ 1099511627777) : MemoOk (D.put (.string t) (.lit (.int .i64 c))) := by
  refine ⟨?_, fun u => ?_⟩
  · obtain ⟨es, rfl⟩ := h.map
    exact ⟨_, rfl⟩
  · by_cases e : u = t
    · subst e
      exact ⟨c, atKey_put_same h.map (by trivial) _ _, .inr hc⟩
    · obtain ⟨c2, h1, h2⟩ := h.at_ u
      exact ⟨c2, by rw [atKey_put_other (by intro h3; injection h3 with h3; exact e h3)]; exact h1, h2⟩
set_option maxRecDepth 100000 in
theorem look_memo {w : World} {mb r : Nat} {D : DataW Unit} (h : w.ownsMap Try.prog 9 (plainElem (H := Unit) Try.prog 3) mb r D) (hm : MemoOk D) (s : ByteArray) (hs : s.size ≤ 4000) :
    ∃ c : Int, (Instr.lookup 101 (.map (some mb)) (.string s) false).run Try.prog w = .ok (.int .i64 c) w ∧ (c = 0 ∨ (2 ≤ c ∧ c ≤ 1099511627777)) := by
  have hkey : keyOf Try.prog 9 (.string s) = some (.string s.data.toList) := WideMaps.keyOf_string_mk Try.underlying9 (by unfold maxLen; omega)
  obtain ⟨c, hrun, hat, _⟩ := h.lookup_int (t := 101) lawS Try.underlying101 Try.underlying3 (zeroI w) hkey
  obtain ⟨c2, h1, h2⟩ := hm.at_ s.data.toList
  rw [h1] at hat
  injection hat with hat
  injection hat with _ hat
  subst hat
  exact ⟨_, hrun, h2⟩
/-- All blocks but the map's are as they were. -/
def Gb (mb : Nat) (w w' : World) : Prop := w.grownBy w' (some mb)
theorem Gb.refl (mb : Nat) (w : World) : Gb mb w w := World.grownBy.refl _ _
theorem Gb.trans {mb : Nat} {a b c : World} (h : Gb mb a b) (k : Gb mb b c) : Gb mb a c :=
  ⟨k.os.trans h.os, k.tape.trans h.tape, k.output.trans h.output, Nat.le_trans h.size k.size, fun i hi hn => (k.block i (Nat.lt_of_lt_of_le hi h.size) hn).trans (h.block i hi hn)⟩
theorem Gb.of {mb : Nat} {a b : World} (h : Below a.heap.size a b) : Gb mb a b := ⟨h.os, h.tape, h.output, h.size, fun i hi _ => h.block i hi⟩
theorem Gb.below {mb K : Nat} {a b : World} (h : Gb mb a b) (h1 : K ≤ mb) (h2 : K ≤ a.heap.size) : Below K a b :=
  ⟨h.os, h.tape, h.output, h.size, fun i hi => h.block i (by omega) (by intro e; injection e with e; omega)⟩
theorem Gb.rd {mb g : Nat} {a b : World} {l : List Int} (h : Gb mb a b) (r : Rd a a.heap.size (some ⟨g, 0, none⟩) l) (hg : g ≠ mb) (hgl : g < a.heap.size) : Rd b b.heap.size (some ⟨g, 0, none⟩) l := by
  refine ⟨r.1, fun hl => ?_⟩
  obtain ⟨ad, e, hb, hc⟩ := r.2 hl
  injection e with e
  subst e
  refine ⟨_, rfl, Nat.lt_of_lt_of_le hgl h.size, fun j u hu => ?_⟩
  have h1 := hc j u hu
  rw [Addr.add_lit] at h1 ⊢
  rw [← h1]
  exact World.cell?_of_block (h.block g hgl (by intro e; injection e with e; exact hg e))
theorem Gb.map {mb r : Nat} {a b : World} {D : DataW Unit} (h : Below a.heap.size a b) (o : a.ownsMap Try.prog 9 (plainElem (H := Unit) Try.prog 3) mb r D) : b.ownsMap Try.prog 9 (plainElem (H := Unit) Try.prog 3) mb r D := by
  obtain ⟨es, clock, hb, k⟩ := o
  exact ⟨es, clock, (h.block mb (lt_of_block hb)).trans hb, k⟩
end Go.Proofs.Ytaoddenadfmdbaa

/- WALK: count: at least one line, at most MaxCount. -/
namespace Go.Proofs.Ytaoddenadfmdbaa
open Go.RowKit Go.Maps
/-- What count does with sets whose lines have at most f signs. -/
def CntC (cs : List Cl) (par : List Int) (n B : Nat) (A2 A3 : Option Addr) (c2 c3 gq cq : Nat) (D : DataW Unit) (K : Nat) (rv : Value) (mb f : Nat) : Prop := ∀ (S : List Nat) (g c r : Nat) (D2 : DataW Unit) (w : World), St cs S → Lb cs S f → Rd w w.heap.size (some ⟨g, 0, none⟩) (nzL S) → g ≠ mb → g < w.heap.size → Sx cs par n B A2 A3 c2 c3 gq cq D K rv w → w.ownsMap Try.prog 9 (plainElem (H := Unit) Try.prog 3) mb r D2 → MemoOk D2 → r + Bc n f ≤ 1000000000000000000 →
  Calls Try.prog 39 #[.pointer (some ⟨B + 1, 0, none⟩), .slice (some ⟨g, 0, none⟩) S.length c, .map (some mb)] w fun e w' => ∃ (x : Int) (r' : Nat) (D3 : DataW Unit), e = .returned (.int .i64 x) ∧ 1 ≤ x ∧ x ≤ 1099511627776 ∧ r' ≤ r + Bc n f ∧ w'.ownsMap Try.prog 9 (plainElem (H := Unit) Try.prog 3) mb r' D3 ∧ MemoOk D3 ∧ Gb mb w w'
set_option maxRecDepth 100000 in
set_option maxHeartbeats 4000000 in
theorem count_step {cs : List Cl} {par : List Int} {n B : Nat} {A2 A3 : Option Addr} {c2 c3 gq cq : Nat} {D : DataW Unit} {K : Nat} {rv : Value} {mb f : Nat} (hc : CsOk cs n) (hn : n ≤ 1000000) (hKm : K ≤ mb) (ih : ∀ f', f = f' + 1 → CntC cs par n B A2 A3 c2 c3 gq cq D K rv mb f') : CntC cs par n B A2 A3 c2 c3 gq cq D K rv mb f := by
  intro S g c r D2 w hS hL hR hg hgl hX hM hMo hr
  have hmb : mb < w.heap.size := by obtain ⟨es, clock, hb, _⟩ := hM; exact lt_of_block hb
  have hSl := hS.len; have hnp := hc.np
  have hne : 0 < S.length := List.length_pos_iff.2 hS.ne
  have hke := hid (key_any S (by omega) (fun x hx => by have := hS.ok x hx; omega) (some ⟨g, 0, none⟩) c w hR)
  obtain ⟨m, hm⟩ : ∃ m, m = S.length := ⟨_, rfl⟩
  rw [← hm] at hke hSl hne ⊢
  have HC := hid hc; have HI := hid ih; have HS := hid hS; have HL := hid hL; have R := hid hR; have X := hid hX; have M := hid hM; have MO := hid hMo; have HM := hid hm; have HG := hid (And.intro hg hgl)
  have hrr := hid hr
  have hb1 : r < maxLen := by unfold maxLen; have := Bc_pos n f; omega
  clear hc ih hS hL hR hX hM hMo hm hg hgl hr
  go_enter Try.func39, Try.ntmps39
  go_upto_region 2 with (first | (go_at_call 55; refine hke.out.mono ?_; rintro e w1 ⟨s, rfl, hs, hb⟩; have HSZ := hid hs; have HB1 := hid hb; clear hs hb))
  have hM1 := Gb.map HB1.out M.out
  obtain ⟨v, hlk, hv⟩ := look_memo hM1 MO.out s HSZ.out
  have HV := hid hv; have M1 := hid hM1
  clear hM1 hv
  by_cases hv0 : 0 < v
  · have e1 : decide ((0 : Int) < v) = true := decide_eq_true hv0
    have hv2 : 2 ≤ v ∧ v ≤ 1099511627777 := by rcases HV.out with h | h <;> omega
    go_wp2_with fail
    go_ret
    refine ⟨v - 1, r, D2, ?_, by omega, by omega, by omega, M1.out, MO.out, Gb.of HB1.out⟩
    rfl
  · have e1 : decide ((0 : Int) < v) = false := decide_eq_false hv0
    clear hv0 HV
    have X1 := hid (X.out.keep ((Gb.of (mb := mb) HB1.out).below hKm X.out.kw))
    have R1 := hid ((Gb.of (mb := mb) HB1.out).rd R.out HG.out.1 HG.out.2)
    have hla := hid (last_any (by omega) w1 X1.out)
    have hco := hid (wcontains_any (nzL S) (num cs cs.length 0 : Nat) (some ⟨g, 0, none⟩) c (by rw [nzL_len]; have := HM.out; omega) w1 w1.heap.size R1.out)
    rw [nzL_len, ← HM.out] at hco
    obtain ⟨q, hq⟩ : ∃ q, q = num cs cs.length 0 := ⟨_, rfl⟩
    rw [← hq] at hla hco
    have hbq : Hid ((nzL S).contains (q : Int) = decide (q ∈ S)) := hid (by
      unfold nzL
      rw [Bool.eq_iff_iff, List.contains_iff_mem, List.mem_map, decide_eq_true_eq]
      constructor
      · rintro ⟨a, ha, e⟩
        rw [← Int.ofNat_inj.1 e]
        exact ha
      · intro h
        exact ⟨q, h, rfl⟩)
    rw [hbq.out] at hco
    have HQ := hid hq
    clear hbq hq
    have pc0' := X1.out.s.cells.c0
    obtain ⟨bq, hbq⟩ : ∃ b, b = decide (q ∈ S) := ⟨_, rfl⟩
    rw [← hbq] at hco
    have HBQ := hid hbq
    clear hbq
    go_upto_if 24 with (first
      | (go_at_call 52; refine hla.out.mono ?_; rintro e wz ⟨rfl, hwz⟩; subst wz)
      | (go_at_call 56; refine hco.out.mono ?_; rintro e w2 ⟨rfl, q2, hw2⟩; have HW2 := hid hw2; clear hw2))
    have H2 := hid (show Below w1.heap.size w1 w2 by rw [HW2.out]; exact below_drewN (Below.refl _ _) _)
    clear HW2
    go_cut [9] (fun v9 wx => ∃ z : Nat, v9 = .int .i64 (z : Int) ∧ z ≤ 1 ∧ Hid (z = 0 → bq = false) ∧ wx = w2)
    case first =>
      cases bq with
      | true => go_wp2_with fail; go_meet; exact ⟨1, rfl, by omega, hid (fun h => by omega), rfl⟩
      | false => go_wp2_with fail; go_meet; exact ⟨0, rfl, by omega, hid (by simp), rfl⟩
    case rest =>
      obtain ⟨z, rfl, hz, HZ, rfl⟩ := hcut
      have X2 := hid (X1.out.below H2.out)
      have M2 := hid (Gb.map H2.out M1.out)
      have G2 := hid ((Gb.of (mb := mb) HB1.out).trans (Gb.of H2.out))
      have hmb2 : mb < wc.heap.size := Nat.lt_of_lt_of_le hmb G2.out.size
      have hbr := Bc_Br n f
      have hrr2 := hrr.out
      have HBR := hid hbr
      obtain ⟨br, hbr1⟩ : ∃ b, b = Br n f := ⟨_, rfl⟩
      rw [← hbr1] at HBR
      have HBR1 := hid hbr1
      have pc0 := X2.out.s.cells.c0
      clear hbr1 hbr H2 pc0' X1 M1 R1 hla hco hke
      go_upto_region 9 with (fail)
      go_loopw [9, 31] (fun v9 v31 wr => ∃ (i : Nat) (x : Int) (r1 : Nat) (D3 : DataW Unit), v31 = .int .i64 (i : Int) ∧ i ≤ n ∧ v9 = .int .i64 x ∧ 0 ≤ x ∧ x ≤ 1099511627776 ∧ Hid (x = 0 → bq = false ∧ ∀ a : Int, 0 ≤ a → a < i → ∀ T, ¬ lang cs S (a :: T)) ∧ r1 ≤ r + i * br ∧ Hid (wr.ownsMap Try.prog 9 (plainElem (H := Unit) Try.prog 3) mb r1 D3) ∧ Hid (MemoOk D3) ∧ Hid (Gb mb w wr)) (fun _ v31 _ => n - (intOf v31).toNat)
      case atStart => exact ⟨0, z, r, D2, rfl, by omega, rfl, by omega, by omega, hid fun h => ⟨HZ.out (by omega), fun a h1 h2 => by omega⟩, by omega, M2, MO, G2⟩
      case round =>
        obtain ⟨i, x, r1, D3, rfl, hi, rfl, hx0, hxm, hX3, hr1, M3, MO3, G3⟩ := hrel
        by_cases hin : i < n
        · have q0 : (i : Int) < (n : Int) := by omega
          have XR := hid (X.out.keep (G3.out.below hKm X.out.kw))
          have RR := G3.out.rd R.out HG.out.1 HG.out.2
          have HA := hid (after_any HC.out S HS.out (i : Int) (some ⟨g, 0, none⟩) c wr RR XR.out)
          rw [← HM.out] at HA
          have hmb3 : mb < wr.heap.size := Nat.lt_of_lt_of_le hmb G3.out.size
          clear RR
          go_upto_region 13 with (first
            | (go_at_call 57; refine HA.out.mono ?_; rintro e w5 ⟨(⟨hno, rfl⟩ | ⟨S', g', c', rfl, hs5, hl5, ho5⟩), hb5⟩))
          · have HB5 := hid hb5
            have hms := mul_s i br
            go_roundw
            case rel =>
              refine ⟨i + 1, x, r1, D3, by go_num, by omega, rfl, hx0, hxm, hid (fun h => ⟨(hX3.out h).1, fun a h1 h2 => ?_⟩), by omega, hid (Gb.map HB5.out M3.out), MO3, hid (G3.out.trans (Gb.of HB5.out))⟩
              by_cases hai : a = (i : Int)
              · rw [hai]; exact hno
              · exact (hX3.out h).2 a h1 (by omega)
            case measure => simp [intOf]; omega
          · obtain ⟨f', hf, hLb⟩ := HL.out.next HC.out hs5 hl5
            have hgl := ho5.lt g' rfl
            have hbe : br = Bc n f' := by rw [HBR1.out, hf]; rfl
            have hms := mul_s i br
            have hmn : (i + 1) * br ≤ n * br := Nat.mul_le_mul_right _ (by omega)
            have HB5 := hid hb5
            have HCT := hid (HI.out f' hf S' g' c' r1 D3 w5 hs5 hLb (own_rd ho5 (nzL_len S').symm) (by omega) hgl.2 (XR.out.below hb5) (Gb.map hb5 M3.out) MO3.out (by rw [← hbe]; have := HBR.out; omega))
            rw [← hbe] at HCT
            have hrn : r1 + br ≤ r + (i + 1) * br := by omega
            clear hs5 hl5 ho5 hb5 hLb hf hbe hms hmn hgl hX3
            go_upto_region 14 with (first
              | (go_at_call 39; refine HCT.out.mono ?_; rintro e w6 ⟨y, r2, D4, rfl, hy1, hy2, hr2, hM6, hMo6, hG6⟩; have M6 := hid hM6; have MO6 := hid hMo6; have G6 := hid hG6; clear hM6 hMo6 hG6; have hw1 : wrap64 (x + y) = x + y := by unfold wrap64; omega))
            go_wp2_with fail
            have hmn : 1 ≤ min (x + y) 1099511627776 ∧ min (x + y) 1099511627776 ≤ 1099511627776 := by omega
            go_roundw
            case rel => exact ⟨i + 1, _, r2, D4, by go_num, by omega, rfl, by omega, hmn.2, hid (fun h => by omega), by omega, M6, MO6, hid ((G3.out.trans (Gb.of HB5.out)).trans G6.out)⟩
            case measure => simp [intOf]; omega
        · obtain rfl : i = n := by omega
          have e0 : decide ((i : Int) < (i : Int)) = false := by simp
          have hx1 : 1 ≤ x := by
            rcases Int.lt_or_le 0 x with h | h
            · omega
            · obtain ⟨h1, h2⟩ := hX3.out (by omega)
              obtain ⟨T, hT, hTs⟩ := st_some HC.out HS.out
              cases T with
              | nil =>
                have h3 := (fin_lang HS.out.ok HS.out.cl).1 hT
                rw [← HQ.out] at h3
                have h4 := HBQ.out
                rw [h1] at h4
                simp [h3] at h4
              | cons a T =>
                have h5 := hTs a (by simp)
                exact absurd hT (h2 a h5.1 h5.2 T)
          have hkey : Hid (keyOf Try.prog 9 (.string s) = some (.string s.data.toList)) := hid (WideMaps.keyOf_string_mk Try.underlying9 (by have := HSZ.out; unfold maxLen; omega))
          have hr2 : r1 < maxLen := by unfold maxLen; have := HBR.out; omega
          have hwf : Hid ((Lit.int .i64 (x + 1)).wf = true) := hid (by
            have e1 : IntKind.i64.min = -9223372036854775808 := by decide
            have e2 : IntKind.i64.max = 9223372036854775807 := by decide
            show (decide (IntKind.i64.min ≤ x + 1) && decide (x + 1 ≤ IntKind.i64.max)) = true
            rw [e1, e2, Bool.and_eq_true, decide_eq_true_eq, decide_eq_true_eq]
            omega)
          have hw1 : wrap64 (x + 1) = x + 1 := by unfold wrap64; omega
          clear hX3
          go_wp2_with (first
            | (at_mapUpdate; go_loud (refine wpList_mapUpdate_own _ rfl _ _ _ 101 rfl 9 3 lawS Try.underlying101 _ mb r1 _ rfl M3.out hr2 _ _ _ rfl rfl hkey.out _ [] (plainElem_int Try.underlying3 hwf.out) ?_); intro w5 hown5 hgrow5; have HO5 := hid hown5; have HG5 := hid hgrow5; clear hown5 hgrow5))
          go_ret
          exact ⟨x, r1 + 1, _, rfl, hx1, hxm, by have := HBR.out; omega, HO5.out, MO3.out.add _ ⟨by omega, by omega⟩, G3.out.trans HG5.out⟩
theorem count_any {cs : List Cl} {par : List Int} {n B : Nat} {A2 A3 : Option Addr} {c2 c3 gq cq : Nat} {D : DataW Unit} {K : Nat} {rv : Value} {mb : Nat} (hc : CsOk cs n) (hn : n ≤ 1000000) (hKm : K ≤ mb) : ∀ f, CntC cs par n B A2 A3 c2 c3 gq cq D K rv mb f
  | 0 => count_step hc hn hKm fun f' h => by omega
  | f + 1 => count_step hc hn hKm fun f' h => by
    obtain rfl : f = f' := by omega
    exact count_any hc hn hKm f
end Go.Proofs.Ytaoddenadfmdbaa
