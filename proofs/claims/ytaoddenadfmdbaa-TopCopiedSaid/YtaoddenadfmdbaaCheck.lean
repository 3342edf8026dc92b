/- WALK: the tests of lines, of the library and of the document's answer. -/
import Derived.Test.YtaoddenadfmdbaaBaseC
import Derived.Shelf.SlicesE.IndexFunc
import Derived.Shelf.SlLaysH
namespace Go.Proofs.Ytaoddenadfmdbaa
open Go.RowKit Go.Shelf Go.Lib
/-- The numbers of the search's types and functions here. -/
def Try.lCF_ren : Go.Shelf.Ren := ⟨fun | 8 => 27 | 6 => 44 | n => n, fun | 22 => 26 | 23 => 3 | 25 => 78 | 4 => 4 | 3 => 3 | 0 => 0 | n => n, fun | n => n⟩
theorem Try.lCF : Go.Proofs.SlLaysH.n8 Try.prog Try.lCF_ren where
  mixed := by kernel_rfl
  f6 := ⟨Try.f44.name, by decide, Try.func44.trans (congrArg some (by kernel_rfl))⟩
  f8 := ⟨Try.f27.name, by decide, Try.func27.trans (congrArg some (by kernel_rfl))⟩
  t0 := Try.underlying0
  a0 := Try.isAgg0
  z0 := Try.sizeOf0
  v0 := Try.zeroValue0
  t3 := Try.underlying3
  a3 := Try.isAgg3
  z3 := Try.sizeOf3
  v3 := Try.zeroValue3
  t4 := Try.underlying4
  a4 := Try.isAgg4
  z4 := Try.sizeOf4
  v4 := Try.zeroValue4
  t22 := Try.underlying26
  a22 := Try.isAgg26
  z22 := Try.sizeOf26
  v22 := Try.zeroValue26
  a23 := Try.isAgg3
  z23 := Try.sizeOf3
  t25 := Try.underlying78
  a25 := Try.isAgg78
  z25 := Try.sizeOf78
  v25 := Try.zeroValue78

theorem check_closure (W : World) (x : Int) : Calls Try.prog 28 #[.int .i64 x] W fun e w' => e = .returned (.bool (decide (x < 0))) ∧ ∃ q, w' = W.drewN q := by
  go_enter Try.func28, Try.ntmps28
  go_wp2
  all_goals (go_ret; exact ⟨by simp_all, 0, rfl⟩)
theorem contains_neg (l : List Int) (A : Option Addr) (c : Nat) (hl : l.length ≤ 60) (w : World) (B : Nat) (r : Rd w B A l) :
    Calls Try.prog 27 #[.slice A l.length c, .func (.func 28) #[] #[]] w fun e w' => e = .returned (.bool (l.any fun x => decide (x < 0))) ∧ ∃ q, w' = w.drewN q := by
  rcases Nat.eq_zero_or_pos l.length with h0 | h0
  · have hl0 : l = [] := List.eq_nil_of_length_eq_zero h0
    subst hl0
    have hcon := AnyE.slices_ContainsFunc_empty Try.lCF A c (.func (.func 28) #[] #[]) w
    change Calls Try.prog 27 _ _ _ at hcon
    exact hcon.mono fun e w' ⟨he, hw⟩ => ⟨he, 0, hw⟩
  · obtain ⟨b, o, rfl, _, hc⟩ := r.at h0
    have eg : ∀ args w, (callFunc 28 args).run Try.prog w = .ok (.enter 28 args) w := enters_of Try.func28 (by kernel_rfl) rfl
    have hcon := AnyE.slices_ContainsFunc Try.lCF (Value.int .i64) (fun x => decide (x < 0)) 28 #[] eg b o l.length c l w (fun W x _ => check_closure W x) (Nat.le_refl _) (by omega) (fun j hj => by rw [hc j hj]; simp [nth, hj])
    change Calls Try.prog 27 _ _ _ at hcon
    rw [List.take_length] at hcon
    exact hcon
/-- A line in memory: where, capacity, signs. -/
abbrev Ln := Option Addr × Nat × List Int
def Ln.val (t : Ln) : Value := .slice t.1 t.2.2.length t.2.1
def vals (ls : List Ln) : List Value := ls.map Ln.val
def lineErr (l : List Int) : Int := if 60 < l.length then 2 else if l.any (fun x => decide (x < 0)) then 23 else 0
def linesErr : List (List Int) → Int
  | [] => 0
  | l :: r => if lineErr l = 0 then linesErr r else lineErr l
def sig (ls : List Ln) : List (List Int) := ls.map fun t => t.2.2
theorem linesErr_append (a b : List (List Int)) (h : ∀ l ∈ a, lineErr l = 0) : linesErr (a ++ b) = linesErr b := by
  induction a with
  | nil => rfl
  | cons l a ih =>
    rw [List.cons_append, linesErr, if_pos (h l (by simp))]
    exact ih fun l hl => h l (by simp [hl])
theorem linesErr_bad {ls : List (List Int)} {k : Nat} (hk : k < ls.length) (h : ∀ l ∈ ls.take k, lineErr l = 0) (hb : lineErr ls[k] ≠ 0) : linesErr ls = lineErr ls[k] := by
  conv => lhs; rw [← List.take_append_drop k ls, linesErr_append _ _ h, List.drop_eq_getElem_cons hk, linesErr, if_neg hb]
theorem linesErr_ok {ls : List (List Int)} (h : ∀ l ∈ ls, lineErr l = 0) : linesErr ls = 0 := by
  have := linesErr_append ls [] h
  rwa [List.append_nil] at this
/-- Lines that are only read. -/
structure Lns (w : World) (B : Nat) (A : Option Addr) (ls : List Ln) : Prop where
  row : Reads w B 1 A ls.length (vals ls)
  ln : ∀ t ∈ ls, Rd w B t.1 t.2.2
theorem Lns.below {w w' : World} {B : Nat} {A : Option Addr} {ls : List Ln} (h : Lns w B A ls) (hb : Below B w w') : Lns w' B A ls := ⟨Reads.below h.row hb, fun t ht => (h.ln t ht).below hb⟩
theorem Lns.at {w : World} {B : Nat} {A : Option Addr} {ls : List Ln} (h : Lns w B A ls) (hl : 0 < ls.length) :
    ∃ b o, A = some ⟨b, o, none⟩ ∧ b < B ∧ ∀ j (hj : j < ls.length), w.cell? ⟨b, o + j, none⟩ = some (.slice ls[j].1 ls[j].2.2.length ls[j].2.1) := by
  obtain ⟨b, o, rfl, hb, hc⟩ := h.row.at0 hl (by simpa [vals] using hl)
  exact ⟨b, o, rfl, hb, fun j hj => hc j _ (by simp [vals, hj, Ln.val])⟩
set_option maxRecDepth 100000 in
set_option maxHeartbeats 1000000 in
theorem check_any (ls : List Ln) (A : Option Addr) (c : Nat) (hls : ls.length ≤ 1000000000000) (w : World) (B : Nat) (r : Lns w B A ls) :
    Calls Try.prog 15 #[.slice A ls.length c] w fun e w' => e = .returned (.int .i64 (linesErr (sig ls))) ∧ ∃ q, w' = w.drewN q := by
  obtain ⟨n, hn⟩ : ∃ n, n = ls.length := ⟨_, rfl⟩
  rw [← hn]
  rw [← hn] at hls
  have R := hid r; clear r
  have Hn := hid hn; clear hn
  go_enter Try.func15, Try.ntmps15
  go_wp2_with fail
  go_loopw [7] (fun i wr => ∃ k : Nat, k ≤ n ∧ i = .int .i64 k ∧ Hid (∀ l ∈ (sig ls).take k, lineErr l = 0) ∧ ∃ q, wr = w.drewN q) (fun i _ => n - (intOf i).toNat)
  case atStart => exact ⟨0, by omega, rfl, (fun l hl => by simp at hl), 0, rfl⟩
  case round =>
    obtain ⟨k, hk, rfl, hE, q, rfl⟩ := hrel
    by_cases hkn : k < n
    · have hk2 : k < ls.length := by rw [← Hn.out]; exact hkn
      obtain ⟨b, o, rfl, _, hc⟩ := R.out.at (by omega)
      have p5 := hc k hk2
      have hr : Rd w B ls[k].1 ls[k].2.2 := R.out.ln _ (List.getElem_mem hk2)
      have hsk : k < (sig ls).length := by simpa [sig] using hk2
      have hsg : (sig ls)[k] = ls[k].2.2 := by simp [sig]
      have hbad : lineErr ls[k].2.2 ≠ 0 → linesErr (sig ls) = lineErr ls[k].2.2 := fun h => by rw [linesErr_bad hsk hE.out (by rw [hsg]; exact h), hsg]
      have hgood : lineErr ls[k].2.2 = 0 → Hid (∀ l ∈ (sig ls).take (k + 1), lineErr l = 0) := fun h l hl => by
        rw [List.take_add_one, List.getElem?_eq_getElem hsk, hsg] at hl
        rcases List.mem_append.1 hl with hl | hl
        · exact hE.out l hl
        · simp at hl; rw [hl]; exact h
      clear hc hsg hE
      obtain ⟨⟨A', c', l⟩, ht⟩ : ∃ t, t = ls[k] := ⟨_, rfl⟩
      rw [← ht] at p5 hr hbad hgood
      simp only at p5 hr hbad hgood
      have Hbad := hid hbad; have Hgood := hid hgood; have Hr := hid hr
      clear hbad hgood hr ht hsk hk2
      by_cases h60 : 60 < l.length
      · have hd : decide ((60 : Int) < (l.length : Int)) = true := by simp; omega
        have hle : lineErr l = 2 := if_pos h60
        have Hle := hid hle; clear hle h60
        go_wp2_with fail
        go_ret
        exact ⟨by rw [Hbad.out (by rw [Hle.out]; decide), Hle.out]; rfl, q, rfl⟩
      · have hd : decide ((60 : Int) < (l.length : Int)) = false := by simp; omega
        have h60' : l.length ≤ 60 := by omega
        have hle : lineErr l = if (l.any fun x => decide (x < 0)) = true then 23 else 0 := by rw [lineErr, if_neg h60]
        have Hle := hid hle
        have H60 := hid h60'
        clear hle h60 h60'
        obtain ⟨ng, hng⟩ : ∃ ng, ng = l.any (fun x => decide (x < 0)) := ⟨_, rfl⟩
        have hcon := contains_neg l A' c' H60.out (w.drewN q) B Hr.out
        rw [← hng] at hcon
        have Hcon := hid hcon
        have Hng := hid hng
        clear hcon hng
        cases ng with
        | true =>
          go_wp2_with (go_at_call 27; refine Hcon.out.mono ?_; rintro e w' ⟨rfl, q2, rfl⟩)
          go_ret
          exact ⟨by rw [Hbad.out (by rw [Hle.out, if_pos Hng.out.symm]; decide), Hle.out, if_pos Hng.out.symm]; rfl, _, by first | rfl | exact World.drewN_drewN _ _ _⟩
        | false =>
          go_wp2_with (go_at_call 27; refine Hcon.out.mono ?_; rintro e w' ⟨rfl, q2, rfl⟩)
          go_roundw
          case rel => exact ⟨k + 1, by omega, by go_num, Hgood.out (by rw [Hle.out, if_neg (by rw [← Hng.out]; decide)]), _, by first | rfl | exact World.drewN_drewN _ _ _⟩
          case measure => simp [intOf]; omega
    · obtain rfl : k = n := by omega
      have hfin : linesErr (sig ls) = 0 := linesErr_ok fun l hl => hE.out l (by rw [List.take_of_length_le (by simp [sig, Hn.out])]; exact hl)
      have Hfin := hid hfin; clear hfin
      go_wp2_with fail
      go_ret
      exact ⟨by rw [Hfin.out]; rfl, q, rfl⟩
end Go.Proofs.Ytaoddenadfmdbaa
