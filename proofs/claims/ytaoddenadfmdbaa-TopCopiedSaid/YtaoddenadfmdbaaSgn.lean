/- SIGNS and VALUES as they lie in memory; signs.of, signs.meet, ostraconref01.collide. -/
import Derived.Test.YtaoddenadfmdbaaStrs
namespace Go.Proofs.Ytaoddenadfmdbaa
open Go.RowKit
structure Vl where
  kind : Int
  text : ByteArray
  frm : Int
  to : Int
deriving DecidableEq
instance : Inhabited Vl := ⟨⟨0, ByteArray.empty, 0, 0⟩⟩
def Vl.cells (v : Vl) : List Value := [.int .i64 v.kind, .string v.text, .int .i64 v.frm, .int .i64 v.to]
def flatV (l : List Vl) : List Value := l.flatMap Vl.cells
theorem flatV_len (l : List Vl) : (flatV l).length = l.length * 4 := by
  unfold flatV
  induction l with
  | nil => rfl
  | cons a l ih => rw [List.flatMap_cons, List.length_append, ih, List.length_cons]; simp only [Vl.cells, List.length_cons, List.length_nil]; omega
theorem flatV_get : ∀ (l : List Vl) (k j : Nat) (hk : k < l.length), j < 4 → (flatV l)[k * 4 + j]? = (l[k].cells)[j]?
  | a :: l, 0, j, _, hj => by
    unfold flatV
    rw [List.flatMap_cons, Nat.zero_mul, Nat.zero_add, List.getElem?_append_left (by simpa [Vl.cells] using hj)]
    rfl
  | a :: l, k + 1, j, hk, hj => by
    have ih := flatV_get l k j (by simpa using hk) hj
    unfold flatV at ih ⊢
    rw [List.flatMap_cons, List.getElem?_append_right (by simp only [Vl.cells, List.length_cons, List.length_nil]; omega)]
    have e : (k + 1) * 4 + j - a.cells.length = k * 4 + j := by simp only [Vl.cells, List.length_cons, List.length_nil]; omega
    rw [e, ih]
    rfl
def Vls (w : World) (B : Nat) (A : Option Addr) (l : List Vl) : Prop := Reads w B 4 A l.length (flatV l)
theorem Vls.below {w w' : World} {B : Nat} {A : Option Addr} {l : List Vl} (h : Vls w B A l) (hb : Below B w w') : Vls w' B A l := Reads.below h hb
theorem Vls.more {w : World} {B B' : Nat} {A : Option Addr} {l : List Vl} (h : Vls w B A l) (hb : B ≤ B') : Vls w B' A l := Reads.more h hb
structure VlAt (w : World) (b o : Nat) (v : Vl) : Prop where
  kind : w.cell? ⟨b, o, none⟩ = some (.int .i64 v.kind)
  text : w.cell? ⟨b, o + 1, none⟩ = some (.string v.text)
  frm : w.cell? ⟨b, o + 2, none⟩ = some (.int .i64 v.frm)
  to : w.cell? ⟨b, o + 3, none⟩ = some (.int .i64 v.to)
theorem Vls.at {w : World} {B : Nat} {A : Option Addr} {l : List Vl} (h : Vls w B A l) (hl : 0 < l.length) :
    ∃ b o, A = some ⟨b, o, none⟩ ∧ b < B ∧ ∀ k (hk : k < l.length), VlAt w b (o + k * 4) l[k] := by
  obtain ⟨b, o, rfl, hb, hc⟩ := Reads.at0 h hl (by rw [flatV_len]; omega)
  refine ⟨b, o, rfl, hb, fun k hk => ?_⟩
  have hx : ∀ j u, j < 4 → (l[k].cells)[j]? = some u → w.cell? ⟨b, o + k * 4 + j, none⟩ = some u := fun j u hj hu => by
    rw [Nat.add_assoc]
    exact hc _ u (by rw [flatV_get l k j hk hj]; exact hu)
  exact ⟨hx 0 _ (by omega) rfl, hx 1 _ (by omega) rfl, hx 2 _ (by omega) rfl, hx 3 _ (by omega) rfl⟩
theorem VlAt.below {w w' : World} {B b o : Nat} {v : Vl} (h : VlAt w b o v) (hb : Below B w w') (hB : b < B) : VlAt w' b o v :=
  have c : ∀ j, w'.cell? ⟨b, j, none⟩ = w.cell? ⟨b, j, none⟩ := fun j => hb.cell (p := ⟨b, j, none⟩) hB
  ⟨(c _).trans h.kind, (c _).trans h.text, (c _).trans h.frm, (c _).trans h.to⟩
structure Sg where
  code : ByteArray
  wide : Int
  high : Int
  even : Bool
  vals : List Vl
  va : Option Addr
  vc : Nat
instance : Inhabited Sg := ⟨⟨ByteArray.empty, 0, 0, false, [], none, 0⟩⟩
def Sg.cells (s : Sg) : List Value := [.string s.code, .int .i64 s.wide, .int .i64 s.high, .bool s.even, .slice s.va s.vals.length s.vc]
def flatS (l : List Sg) : List Value := l.flatMap Sg.cells
theorem flatS_len (l : List Sg) : (flatS l).length = l.length * 5 := by
  unfold flatS
  induction l with
  | nil => rfl
  | cons a l ih => rw [List.flatMap_cons, List.length_append, ih, List.length_cons]; simp only [Sg.cells, List.length_cons, List.length_nil]; omega
theorem flatS_get : ∀ (l : List Sg) (k j : Nat) (hk : k < l.length), j < 5 → (flatS l)[k * 5 + j]? = (l[k].cells)[j]?
  | a :: l, 0, j, _, hj => by
    unfold flatS
    rw [List.flatMap_cons, Nat.zero_mul, Nat.zero_add, List.getElem?_append_left (by simpa [Sg.cells] using hj)]
    rfl
  | a :: l, k + 1, j, hk, hj => by
    have ih := flatS_get l k j (by simpa using hk) hj
    unfold flatS at ih ⊢
    rw [List.flatMap_cons, List.getElem?_append_right (by simp only [Sg.cells, List.length_cons, List.length_nil]; omega)]
    have e : (k + 1) * 5 + j - a.cells.length = k * 5 + j := by simp only [Sg.cells, List.length_cons, List.length_nil]; omega
    rw [e, ih]
    rfl
structure Sgs (w : World) (B : Nat) (A : Option Addr) (l : List Sg) : Prop where
  row : Reads w B 5 A l.length (flatS l)
  vls : ∀ s ∈ l, Vls w B s.va s.vals
theorem Sgs.below {w w' : World} {B : Nat} {A : Option Addr} {l : List Sg} (h : Sgs w B A l) (hb : Below B w w') : Sgs w' B A l := ⟨Reads.below h.row hb, fun s hs => (h.vls s hs).below hb⟩
theorem Sgs.more {w : World} {B B' : Nat} {A : Option Addr} {l : List Sg} (h : Sgs w B A l) (hb : B ≤ B') : Sgs w B' A l := ⟨Reads.more h.row hb, fun s hs => (h.vls s hs).more hb⟩
structure SgAt (w : World) (b o : Nat) (s : Sg) : Prop where
  code : w.cell? ⟨b, o, none⟩ = some (.string s.code)
  wide : w.cell? ⟨b, o + 1, none⟩ = some (.int .i64 s.wide)
  high : w.cell? ⟨b, o + 2, none⟩ = some (.int .i64 s.high)
  even : w.cell? ⟨b, o + 3, none⟩ = some (.bool s.even)
  vals : w.cell? ⟨b, o + 4, none⟩ = some (.slice s.va s.vals.length s.vc)
theorem Sgs.at {w : World} {B : Nat} {A : Option Addr} {l : List Sg} (h : Sgs w B A l) (hl : 0 < l.length) :
    ∃ b o, A = some ⟨b, o, none⟩ ∧ b < B ∧ ∀ k (hk : k < l.length), SgAt w b (o + k * 5) l[k] := by
  obtain ⟨b, o, rfl, hb, hc⟩ := Reads.at0 h.row hl (by rw [flatS_len]; omega)
  refine ⟨b, o, rfl, hb, fun k hk => ?_⟩
  have hx : ∀ j u, j < 5 → (l[k].cells)[j]? = some u → w.cell? ⟨b, o + k * 5 + j, none⟩ = some u := fun j u hj hu => by
    rw [Nat.add_assoc]
    exact hc _ u (by rw [flatS_get l k j hk hj]; exact hu)
  exact ⟨hx 0 _ (by omega) rfl, hx 1 _ (by omega) rfl, hx 2 _ (by omega) rfl, hx 3 _ (by omega) rfl, hx 4 _ (by omega) rfl⟩
theorem SgAt.below {w w' : World} {B b o : Nat} {s : Sg} (h : SgAt w b o s) (hb : Below B w w') (hB : b < B) : SgAt w' b o s :=
  have c : ∀ j, w'.cell? ⟨b, j, none⟩ = w.cell? ⟨b, j, none⟩ := fun j => hb.cell (p := ⟨b, j, none⟩) hB
  ⟨(c _).trans h.code, (c _).trans h.wide, (c _).trans h.high, (c _).trans h.even, (c _).trans h.vals⟩
/-- Two values say the same in some period. -/
def meetB (a b : Vl) : Bool := (a.kind == b.kind) && (a.text.toList == b.text.toList) && decide (a.frm ≤ b.to) && decide (b.frm ≤ a.to)
theorem meetB_comm (a b : Vl) : meetB a b = meetB b a := by
  unfold meetB
  rw [show (a.kind == b.kind) = (b.kind == a.kind) from Bool.beq_comm, show (a.text.toList == b.text.toList) = (b.text.toList == a.text.toList) from Bool.beq_comm]
  generalize (b.kind == a.kind) = x1
  generalize (b.text.toList == a.text.toList) = x2
  cases x1 <;> cases x2 <;> simp [Bool.and_comm]
set_option maxRecDepth 100000 in
theorem of_any (k : Int) (t : ByteArray) (f g : Int) (w : World) :
    Calls Try.prog 90 #[.agg #[.int .i64 k, .string t, .int .i64 f, .int .i64 g]] w fun e w' => e = .returned (.agg #[.int .i64 k, .string t]) ∧ Below w.heap.size w w' := by
  go_enter Try.func90, Try.ntmps90
  go_wp2_with fail
  exact bodyPost_ret (v := .agg #[.int .i64 k, .string t]) (by simp [results, Try.results90, go_sem]) rfl ⟨rfl, ((Below.refl _ _).alloc (Nat.le_refl _) _).alloc (by simp) _⟩
set_option maxRecDepth 100000 in
set_option maxHeartbeats 1000000 in
theorem meet_any (a b : Vl) (w : World) :
    Calls Try.prog 77 #[.agg #[.int .i64 a.kind, .string a.text, .int .i64 a.frm, .int .i64 a.to], .agg #[.int .i64 b.kind, .string b.text, .int .i64 b.frm, .int .i64 b.to]] w fun e w' => e = .returned (.bool (meetB a b)) ∧ Below w.heap.size w w' := by
  obtain ⟨r, hr⟩ : ∃ r, r = meetB a b := ⟨_, rfl⟩
  rw [← hr]
  unfold meetB at hr
  obtain ⟨k, t, f, g⟩ := a
  obtain ⟨k2, t2, f2, g2⟩ := b
  simp only [] at hr ⊢
  have HR := hid hr
  clear hr
  go_enter Try.func77, Try.ntmps77
  go_wp2_with fail
  obtain ⟨wb, hwb⟩ : ∃ wb, wb = (w.alloc (.cells #[.int .i64 k, .string t, .int .i64 f, .int .i64 g] 86)).alloc (.cells #[.int .i64 k2, .string t2, .int .i64 f2, .int .i64 g2] 86) := ⟨_, rfl⟩
  have hbw : Below w.heap.size w wb := by rw [hwb]; exact ((Below.refl _ _).alloc (Nat.le_refl _) _).alloc (by simp) _
  have hc : ∀ z : BW (w.heap.size + 2) wb, VlAt z.val w.heap.size 0 ⟨k, t, f, g⟩ ∧ VlAt z.val (w.heap.size + 1) 0 ⟨k2, t2, f2, g2⟩ := fun z =>
    ⟨VlAt.below (w := wb) (by subst hwb; refine ⟨?_, ?_, ?_, ?_⟩ <;> simp) z.ok (by omega), VlAt.below (w := wb) (by subst hwb; refine ⟨?_, ?_, ?_, ?_⟩ <;> simp) z.ok (by omega)⟩
  have c1 := fun z => (hc z).1.kind; have c2 := fun z => (hc z).1.text; have c3 := fun z => (hc z).1.frm; have c4 := fun z => (hc z).1.to
  have d1 := fun z => (hc z).2.kind; have d2 := fun z => (hc z).2.text; have d3 := fun z => (hc z).2.frm; have d4 := fun z => (hc z).2.to
  simp only [] at c1 c2 c3 c4 d1 d2 d3 d4
  have hsz : w.heap.size + 2 ≤ wb.heap.size := by rw [hwb]; simp
  have HB := hid (Below.refl (w.heap.size + 2) wb)
  have HO1 := hid (below_class hsz (v := .agg #[.int .i64 k, .string t]) (fun z => of_any k t f g z.val))
  have HO2 := hid (below_class hsz (v := .agg #[.int .i64 k2, .string t2]) (fun z => of_any k2 t2 f2 g2 z.val))
  have HBW := hid hbw
  rw [← hwb]
  clear hc hwb hsz hbw
  obtain ⟨B0, hB0⟩ : ∃ B0, B0 = w.heap.size := ⟨_, rfl⟩
  refine region_below (by kernel_rfl) (by kernel_rfl) HB.out ?_
  clear hB0 B0
  cases e1 : (k == k2) with
  | false =>
    have HX : r = false := by
      have h := HR.out
      rw [e1] at h
      simpa using h
    replace HX := hid HX
    repeat (go_big_quiet_step ((go_at_call 90; go_must (first | with_reducible exact (HO1.out _) | with_reducible exact (HO2.out _)))))
    refine wpQuiet_nil ?_
    intro _ hw'
    obtain ⟨z, rfl⟩ := hw'
    have HZ := hid (HBW.out.trans (z.ok.mono (by omega)))
    clear c1 c2 c3 c4 d1 d2 d3 d4
    go_wp2_with fail
    go_ret
    exact ⟨by rw [HX.out]; rfl, HZ.out⟩
  | true =>
    cases e2 : (t.toList == t2.toList) with
    | false =>
      have HX : r = false := by
        have h := HR.out
        rw [e1, e2] at h
        simpa using h
      replace HX := hid HX
      repeat (go_big_quiet_step ((go_at_call 90; go_must (first | with_reducible exact (HO1.out _) | with_reducible exact (HO2.out _)))))
      refine wpQuiet_nil ?_
      intro _ hw'
      obtain ⟨z, rfl⟩ := hw'
      have HZ := hid (HBW.out.trans (z.ok.mono (by omega)))
      clear c1 c2 c3 c4 d1 d2 d3 d4
      go_wp2_with fail
      go_ret
      exact ⟨by rw [HX.out]; rfl, HZ.out⟩
    | true =>
      cases e3 : decide (f ≤ g2) with
      | false =>
        have HX : r = false := by
          have h := HR.out
          rw [e1, e2, e3] at h
          simpa using h
        replace HX := hid HX
        repeat (go_big_quiet_step ((go_at_call 90; go_must (first | with_reducible exact (HO1.out _) | with_reducible exact (HO2.out _)))))
        refine wpQuiet_nil ?_
        intro _ hw'
        obtain ⟨z, rfl⟩ := hw'
        have HZ := hid (HBW.out.trans (z.ok.mono (by omega)))
        clear c1 c2 c3 c4 d1 d2 d3 d4
        go_wp2_with fail
        go_ret
        exact ⟨by rw [HX.out]; rfl, HZ.out⟩
      | true =>
        cases e4 : decide (f2 ≤ g) with
        | false =>
          have HX : r = false := by
            have h := HR.out
            rw [e1, e2, e3, e4] at h
            simpa using h
          replace HX := hid HX
          repeat (go_big_quiet_step ((go_at_call 90; go_must (first | with_reducible exact (HO1.out _) | with_reducible exact (HO2.out _)))))
          refine wpQuiet_nil ?_
          intro _ hw'
          obtain ⟨z, rfl⟩ := hw'
          have HZ := hid (HBW.out.trans (z.ok.mono (by omega)))
          clear c1 c2 c3 c4 d1 d2 d3 d4
          go_wp2_with fail
          go_ret
          exact ⟨by rw [HX.out]; rfl, HZ.out⟩
        | true =>
          have HX : r = true := by
            have h := HR.out
            rw [e1, e2, e3, e4] at h
            exact h
          replace HX := hid HX
          repeat (go_big_quiet_step ((go_at_call 90; go_must (first | with_reducible exact (HO1.out _) | with_reducible exact (HO2.out _)))))
          refine wpQuiet_nil ?_
          intro _ hw'
          obtain ⟨z, rfl⟩ := hw'
          have HZ := hid (HBW.out.trans (z.ok.mono (by omega)))
          clear c1 c2 c3 c4 d1 d2 d3 d4
          go_wp2_with fail
          go_ret
          exact ⟨by rw [HX.out]; rfl, HZ.out⟩
set_option maxRecDepth 100000 in
set_option maxHeartbeats 1000000 in
theorem collide_any (a b : Vl) (w : World) :
    Calls Try.prog 33 #[.agg #[.int .i64 a.kind, .string a.text, .int .i64 a.frm, .int .i64 a.to], .agg #[.int .i64 b.kind, .string b.text, .int .i64 b.frm, .int .i64 b.to]] w fun e w' => e = .returned (.bool (meetB a b)) ∧ Below w.heap.size w w' := by
  obtain ⟨r, hr⟩ : ∃ r, r = meetB a b := ⟨_, rfl⟩
  rw [← hr]
  unfold meetB at hr
  obtain ⟨k, t, f, g⟩ := a
  obtain ⟨k2, t2, f2, g2⟩ := b
  simp only [] at hr ⊢
  have HR := hid hr
  clear hr
  have HB := hid (fun (x y : Obj) => ((Below.refl w.heap.size w).alloc (Nat.le_refl _) x).alloc (by simp) y)
  go_enter Try.func33, Try.ntmps33
  go_wp2_with fail
  all_goals
    go_ret
    refine ⟨congrArg (fun x => Ending.returned (.bool x)) (Eq.trans ?_ HR.out.symm), HB.out _ _⟩
    first | (simp [*]; done) | (simp [*]; omega)
end Go.Proofs.Ytaoddenadfmdbaa
