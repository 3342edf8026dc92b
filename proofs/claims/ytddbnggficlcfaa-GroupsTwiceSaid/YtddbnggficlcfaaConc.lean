/- WALK: slices.Grow of nothing, slices.Concat of two rows of numbers. -/
import Derived.Test.YtddbnggficlcfaaColl
import Derived.Lib.AppendZerosOnto
import Derived.Lib.Walk
import Derived.Lib.SliceRun
namespace Go.Proofs.Ytddbnggficlcfaa
open Go.RowKit
set_option maxRecDepth 100000 in
set_option maxHeartbeats 1000000 in
theorem grow_any (n : Nat) (hn : n ≤ 10000000) (w : World) :
    Calls Try.prog 107 #[.slice none 0 0, .int .i64 n] w fun e w' => ∃ v, e = .returned v ∧ w'.ownsRow w.heap.size 3 1 v 0 (ints []) ∧ Below w.heap.size w w' := by
  by_cases h0 : n = 0
  · subst h0
    go_enter Try.func107, Try.ntmps107
    go_wp2_with fail
    go_ret
    exact ⟨_, rfl, World.ownsRow_nil _ _ _ _, Below.refl _ _⟩
  · obtain ⟨i0, hi, hz0, hzz, hz2⟩ := info_parts Try.infoInt
    have hold : (Builtin.firstCells i0.size 0 (.slice none 0 0)).run Try.prog w.drew = .ok #[] w.drew := run_firstCells_none w.drew i0.size 0 0 0
    have hrz : ∀ ty, (Builtin.append_ #[38, 3] ty #[.slice none 0 0, .int .i64 (n : Int)]).run Try.prog w =
        .ok (.slice (some ⟨w.heap.size, 0, none⟩) n (grownCap w n 0 3)) (w.drew.alloc (.cells (#[] ++ Builtin.zeroCells (Value.int .i64 0).cells n ++ Builtin.zeroCells (Value.int .i64 0).cells (grownCap w n 0 3 - n)) 3)) := fun ty => by
      have h := Lib.run_append_grow_zeros w 38 3 ty 3 i0 (.int .i64 0) .i64 .i64 Try.underlying38 Try.underlying3 hi hz0 none 0 0 [] hold n (by omega) (by omega) (by omega) (by omega) (by rw [hz2]; omega)
        (by rw [Nat.zero_add]; exact growslice_fits (by omega) (by rw [hz2]; omega))
      rw [Nat.zero_add] at h
      exact h
    have hGn : n ≤ grownCap w n 0 3 := grownCap_ge w _ _ _
    have hG63 := grownCap_le_maxLen w n 0 3 (by unfold maxLen; omega)
    obtain ⟨G, hG⟩ : ∃ G, G = grownCap w n 0 3 := ⟨_, rfl⟩
    rw [← hG] at hrz hGn hG63
    obtain ⟨cs, hcs⟩ : ∃ cs, cs = #[] ++ Builtin.zeroCells (Value.int .i64 0).cells n ++ Builtin.zeroCells (Value.int .i64 0).cells (G - n) := ⟨_, rfl⟩
    rw [← hcs] at hrz
    have hsz : cs.size = G := by
      rw [hcs]
      simp [size_zeroCells, Value.cells]
      omega
    have HS := hid hsz; have HG := hid hG63
    have q1 : (0 : Int) < (n : Int) := by omega
    clear hold hG hcs hsz hG63 hz0 hi hzz hz2
    unfold maxLen at HG
    have hg2 : G ≤ 9223372036854775807 := HG.out
    go_enter Try.func107, Try.ntmps107
    go_wp2_with (at_builtin; refine Lib.wpList_append_run _ rfl _ _ _ _ rfl _ _ rfl rfl _ _ (hrz _) ?_)
    all_goals (go_ret; exact ⟨_, rfl, ⟨by simp, .inr ⟨w.heap.size, G, cs, rfl, Nat.le_refl _, heap_alloc_new _ _, by omega, HG.out, by rw [HS.out]; simp, rfl⟩⟩, ((Below.refl _ _).alloc (Nat.le_refl _) _).drew⟩)
theorem run_append_noneC {P : Program} {w : World} (base : Nat) (t ty e : TypeId) (i : TypeInfo) (size : Nat) (ht : P.underlying t = some (.slice e)) (hi : P.info? e = some i)
    (v : Value) (n c : Nat) (xs : List Value) (hown : w.ownsRow base e size v n xs) :
    (Builtin.append_ #[t, t] ty #[v, .slice none 0 c]).run P w = .ok v w := by
  rcases hown.2 with ⟨rfl, rfl⟩ | ⟨g, cap, cur, rfl, _, _, hnc, _⟩
  · simp [Builtin.append_, run_underlying ht, sizeOf, typeInfo, hi, Builtin.lenOf, Builtin.firstCells]
  · simp [Builtin.append_, run_underlying ht, sizeOf, typeInfo, hi, Builtin.lenOf, Builtin.firstCells, hnc, storeCells]
theorem wp_rd {P : Program} {o : Oper} {a : Act} {w : World} {K : Act → World → Prop} {Q : Exit → Act → World → Prop} (s x : Operand) {t e : TypeId} {z : Value} {bytes : Nat}
    (ht : P.underlying t = some (.slice e)) (hinfo : (P.info? e).map (fun i => (i.zero, i.size, i.bytes)) = some (some z, 1, bytes)) (hz1 : z.cells.size = 1) (hb8 : bytes ≤ 64)
    (ho : o.op = .call { callee := .builtin .append, args := #[s, x], argTypes := #[t, t] })
    (base : Nat) (v : Value) (n : Nat) (l : List Int) (hs : a.eval s = v) (hown : w.ownsRow base e 1 v n (ints l))
    (A : Option Addr) (m c B : Nat) (news : List Int) (hx : a.eval x = .slice A m c) (hm : news.length = m) (hp : Rd w B A news) (hn : n + m ≤ 1000000000) (hbase : base ≤ w.heap.size)
    (h : ∀ v' w', w'.ownsRow base e 1 v' (n + m) (ints (l ++ news)) → w.grownBy w' v.ownBlock → K (a.put o.dst v') w') : o.wp P a w K Q := by
  by_cases h0 : A = none
  · subst h0
    have hm0 : m = 0 := by
      by_cases e0 : 0 < news.length
      · obtain ⟨_, e, _⟩ := hp.2 e0; cases e
      · omega
    subst hm0
    have hnil : news = [] := List.eq_nil_of_length_eq_zero hm
    subst hnil
    obtain ⟨i0, hi, hz0, hzz, hz2⟩ := info_parts hinfo
    have hr := run_append_noneC (P := P) (w := w) base t o.type e i0 1 ht hi v n c (ints l) hown
    unfold Oper.wp execOp
    simp only [ho, resolve, invoke, builtin, Sem.run_bind, Sem.run_pure, Result.andThen_ok, List.map_toArray, List.map_cons, List.map_nil, hs, hx, hr]
    exact h v w (by simpa using hown) ⟨rfl, rfl, rfl, Nat.le_refl _, fun _ _ _ => rfl⟩
  · obtain ⟨ad, rfl⟩ := Option.ne_none_iff_exists'.1 h0
    have hmm : (n + m) * bytes ≤ 140737488355328 := by
      have := Nat.mul_le_mul_left (n + m) hb8
      omega
    obtain ⟨i0, hi, hz0, hzz, hz2⟩ := info_parts hinfo
    refine wp_append_own w s x t ho base e i0 z 1 bytes ht hi hz0 hzz hz2 hz1 (by decide) v n (ints l) hs hown ad m c (ints news) hx (by simp [hm]) (fun j u hu => ?_) (by intro u hu; obtain ⟨y, _, rfl⟩ := List.mem_map.1 hu; rfl) (by unfold maxLen; omega) hmm hbase (fun v' w' a b _ => h v' w' (by rw [ints_append]; exact a) b)
    have hj := (List.getElem?_eq_some_iff.1 hu).1
    obtain ⟨ad', e, _, hcell⟩ := hp.2 (by simp at hj; omega)
    injection e with e
    subst e
    exact hcell j u hu
theorem app_rd {P : Program} {ops : Array Oper} {rest : List Oper} {o : Oper} {a : Act} {w : World} {Q : Exit → Act → World → Prop} (hgd : o.guard = none) (s x : Operand) {t e : TypeId} {z : Value} {bytes : Nat}
    (ht : P.underlying t = some (.slice e)) (hinfo : (P.info? e).map (fun i => (i.zero, i.size, i.bytes)) = some (some z, 1, bytes)) (hz1 : z.cells.size = 1) (hb8 : bytes ≤ 64)
    (ho : o.op = .call { callee := .builtin .append, args := #[s, x], argTypes := #[t, t] })
    (base : Nat) (v : Value) (n : Nat) (l : List Int) (hs : a.eval s = v) (hown : w.ownsRow base e 1 v n (ints l))
    (A : Option Addr) (m c B : Nat) (news : List Int) (hx : a.eval x = .slice A m c) (hm : news.length = m) (hp : Rd w B A news) (hn : n + m ≤ 1000000000) (hbase : base ≤ w.heap.size)
    (h : ∀ v' w', w'.ownsRow base e 1 v' (n + m) (ints (l ++ news)) → w.grownBy w' v.ownBlock → wpList P ops Q rest (a.put o.dst v') w') : wpList P ops Q (o :: rest) a w :=
  wpList_plain hgd fun _ hK => wp_rd s x ht hinfo hz1 hb8 ho base v n l hs hown A m c B news hx hm hp hn hbase fun v' w' h1 h2 => hK _ _ (h v' w' h1 h2)
theorem step_rd {P : Program} {ops : Array Oper} {o : Oper} {a : Act} {w : World} {K : Act → World → Prop} {Q : Exit → Act → World → Prop} {E : Prop} (hgd : o.guard = none) (s x : Operand) {t e : TypeId} {z : Value} {bytes : Nat}
    (ht : P.underlying t = some (.slice e)) (hinfo : (P.info? e).map (fun i => (i.zero, i.size, i.bytes)) = some (some z, 1, bytes)) (hz1 : z.cells.size = 1) (hb8 : bytes ≤ 64)
    (ho : o.op = .call { callee := .builtin .append, args := #[s, x], argTypes := #[t, t] })
    (base : Nat) (v : Value) (n : Nat) (l : List Int) (hs : a.eval s = v) (hown : w.ownsRow base e 1 v n (ints l))
    (A : Option Addr) (m c B : Nat) (news : List Int) (hx : a.eval x = .slice A m c) (hm : news.length = m) (hp : Rd w B A news) (hn : n + m ≤ 1000000000) (hbase : base ≤ w.heap.size)
    (h : ∀ v' w', w'.ownsRow base e 1 v' (n + m) (ints (l ++ news)) → w.grownBy w' v.ownBlock → K (a.put o.dst v') w') :
    if Region.wanted o (yielded ops a.tmps) = true then Oper.wp P o a w K Q else E := by
  rw [if_pos (by simp [Region.wanted, hgd])]
  exact wp_rd s x ht hinfo hz1 hb8 ho base v n l hs hown A m c B news hx hm hp hn hbase h
/-- What has been put together of two rows. -/
def twoN (k x y : Nat) : Nat := if k = 0 then 0 else if k = 1 then x else x + y
def twoL (k : Nat) (a b : List Int) : List Int := if k = 0 then [] else if k = 1 then a else a ++ b
set_option maxRecDepth 100000 in
set_option maxHeartbeats 2000000 in
theorem concat_any (a b : List Int) (A1 A2 : Option Addr) (c1 c2 g : Nat) (ha : a.length ≤ 1000000) (hb : b.length ≤ 1000000) (w : World) (hg : g < w.heap.size)
    (p0 : w.cell? ⟨g, 0, none⟩ = some (.slice A1 a.length c1)) (p1 : w.cell? ⟨g, 1, none⟩ = some (.slice A2 b.length c2)) (ra : Rd w w.heap.size A1 a) (rb : Rd w w.heap.size A2 b) :
    Calls Try.prog 99 #[.slice (some ⟨g, 0, none⟩) 2 2] w fun e w' => ∃ v, e = .returned v ∧ w'.ownsRow w.heap.size 3 1 v (a ++ b).length (ints (a ++ b)) ∧ Below w.heap.size w w' := by
  obtain ⟨n, hn⟩ : ∃ n, n = a.length := ⟨_, rfl⟩
  obtain ⟨m, hm⟩ : ∃ m, m = b.length := ⟨_, rfl⟩
  rw [← hn] at p0 ha
  rw [← hm] at p1 hb
  have Hn := hid hn; have Hm := hid hm; have Ra := hid ra; have Rb := hid rb
  clear hn hm ra rb
  go_enter Try.func99, Try.ntmps99
  go_wp2_with fail
  go_loopw [3, 11] (fun sv kv wr => ∃ k : Nat, k ≤ 2 ∧ kv = .int .i64 k ∧ sv = .int .i64 (twoN k n m) ∧ w = wr) (fun _ kv _ => 2 - (intOf kv).toNat)
  case atStart => exact ⟨0, by omega, rfl, rfl, rfl⟩
  case round =>
    obtain ⟨k, hk, rfl, rfl, rfl⟩ := hrel
    by_cases h0 : k = 0
    · subst h0
      have e0 : twoN 0 n m = 0 := rfl
      have E1 : Hid (twoN 1 n m = n) := rfl
      rw [e0]
      clear e0
      have q1 : (0 : Int) ≤ (n : Int) := by omega
      go_wp2_with fail
      go_roundw
      case rel => exact ⟨1, by omega, by go_num, by rw [E1.out], by first | exact rfl | trivial⟩
      case measure => simp [intOf]
    · by_cases h1 : k = 1
      · subst h1
        have e0 : twoN 1 n m = n := rfl
        have E1 : Hid (twoN 2 n m = n + m) := rfl
        rw [e0]
        clear e0 h0
        have q1 : (0 : Int) ≤ (n : Int) + (m : Int) := by omega
        have q2 : IntKind.i64.wrap ((n : Int) + (m : Int)) = (n : Int) + (m : Int) := IntWalk.i64_in _ (by omega)
        go_wp2_with fail
        go_roundw
        case rel => exact ⟨2, by omega, by go_num, by rw [E1.out]; simp, by first | exact rfl | trivial⟩
        case measure => simp [intOf]
      · obtain rfl : k = 2 := by omega
        have e0 : twoN 2 n m = n + m := rfl
        rw [e0]
        clear e0 h0 h1 hk
        obtain ⟨M, hM⟩ : ∃ M, M = n + m := ⟨_, rfl⟩
        have hM2 : M ≤ 2000000 := by omega
        rw [← hM]
        clear hM
        have HG := hid (grow_any M (by omega) w)
        go_wp2_with (first | (go_at_call 107; refine HG.out.mono ?_; rintro e w4 ⟨v4, rfl, ho4, hb4⟩; have HO := hid ho4; have HB := hid hb4; clear ho4 hb4 HG))
        have P0 := hid fun W (hB : Below w.heap.size w W) => (hB.cell (p := ⟨g, 0, none⟩) hg).trans p0
        have P1 := hid fun W (hB : Below w.heap.size w W) => (hB.cell (p := ⟨g, 1, none⟩) hg).trans p1
        clear p0 p1
        go_loopw [6, 27] (fun vv kv wr => ∃ (k : Nat) (v : Value), k ≤ 2 ∧ kv = .int .i64 k ∧ vv = v ∧ Hid (wr.ownsRow w.heap.size 3 1 v (twoN k n m) (ints (twoL k a b))) ∧ Hid (Below w.heap.size w wr)) (fun _ kv _ => 2 - (intOf kv).toNat)
        case atStart => exact ⟨0, _, by omega, rfl, rfl, HO.out, HB.out⟩
        case round =>
          obtain ⟨k, v, hk, rfl, rfl, hO, hB⟩ := hrel
          obtain ⟨A5, c5, rfl⟩ := own_slice hO.out
          have p0 := P0.out wr hB.out
          have p1 := P1.out wr hB.out
          have hsz := hB.out.size
          by_cases h0 : k = 0
          · subst h0
            have hO2 : Hid (wr.ownsRow w.heap.size 3 1 (.slice A5 (twoN 0 n m) c5) 0 (ints [])) := hO
            have E1 : Hid (twoN 1 n m = 0 + n) := by show n = 0 + n; omega
            have E2 : Hid (twoL 1 a b = [] ++ a) := hid rfl
            have RA := hid (Ra.out.below hB.out)
            clear hO
            go_wp2_with (first | (at_builtin; refine app_rd rfl (.tmp 31) (.tmp 32) Try.underlying38 Try.infoInt rfl (by decide) rfl w.heap.size _ 0 [] rfl hO2.out A1 n c1 w.heap.size a rfl Hn.out.symm RA.out (by omega) hsz ?_; intro v6 w6 ho6 hg6; have HO6 := hid ho6; have HB6 := hid (below_app hB.out hO2.out hg6 (Nat.le_refl _) hsz); clear ho6 hg6))
            go_roundw
            case rel => exact ⟨1, _, by omega, by go_num, rfl, by rw [E1.out, E2.out]; exact HO6.out, HB6.out⟩
            case measure => simp [intOf]
          · by_cases h1 : k = 1
            · subst h1
              have hO2 : Hid (wr.ownsRow w.heap.size 3 1 (.slice A5 (twoN 1 n m) c5) n (ints a)) := hO
              have E1 : Hid (twoN 2 n m = n + m) := hid rfl
              have E2 : Hid (twoL 2 a b = a ++ b) := hid rfl
              have RB := hid (Rb.out.below hB.out)
              clear hO
              go_wp2_with (first | (at_builtin; refine app_rd rfl (.tmp 31) (.tmp 32) Try.underlying38 Try.infoInt rfl (by decide) rfl w.heap.size _ n a rfl hO2.out A2 m c2 w.heap.size b rfl Hm.out.symm RB.out (by omega) hsz ?_; intro v6 w6 ho6 hg6; have HO6 := hid ho6; have HB6 := hid (below_app hB.out hO2.out hg6 (Nat.le_refl _) hsz); clear ho6 hg6))
              go_roundw
              case rel => exact ⟨2, _, by omega, by go_num, rfl, by rw [E1.out, E2.out]; exact HO6.out, HB6.out⟩
              case measure => simp [intOf]
            · obtain rfl : k = 2 := by omega
              have hO2 : Hid (wr.ownsRow w.heap.size 3 1 (.slice A5 (twoN 2 n m) c5) (a ++ b).length (ints (a ++ b))) := by rw [List.length_append, ← Hn.out, ← Hm.out]; exact hO
              clear hO
              go_wp2_with fail
              go_ret
              exact ⟨_, rfl, hO2.out, hB.out⟩
end Go.Proofs.Ytddbnggficlcfaa
