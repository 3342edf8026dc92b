/- Copies of lists and texts: ostraconref02.Copy, ostraconref01.Copy. -/
import Derived.Test.YtddbnggficlcfaaOwn
import Derived.Test.YtddbnggficlcfaaConc
namespace Go.Proofs.Ytddbnggficlcfaa
open Go.RowKit
/-- A whole slice of structs, which may be nil, is appended to a slice of the call's own. -/
theorem wp_rdS {P : Program} {o : Oper} {a : Act} {w : World} {K : Act → World → Prop} {Q : Exit → Act → World → Prop} (s x : Operand) {t e : TypeId} {z : Value} {size bytes : Nat}
    (ht : P.underlying t = some (.slice e)) (hinfo : (P.info? e).map (fun i => (i.zero, i.size, i.bytes)) = some (some z, size, bytes)) (hz1 : z.cells.size = size) (hsz : 0 < size) (hb8 : bytes ≤ 1000)
    (ho : o.op = .call { callee := .builtin .append, args := #[s, x], argTypes := #[t, t] })
    (base : Nat) (v : Value) (n : Nat) (xs : List Value) (hs : a.eval s = v) (hown : w.ownsRow base e size v n xs)
    (A : Option Addr) (m c B : Nat) (news : List Value) (hx : a.eval x = .slice A m c) (hp : Reads w B size A m news) (h1 : ∀ u ∈ news, u.oneCell' = true) (hn : n + m ≤ 1000000000) (hbase : base ≤ w.heap.size)
    (h : ∀ v' w', w'.ownsRow base e size v' (n + m) (xs ++ news) → w.grownBy w' v.ownBlock → K (a.put o.dst v') w') : o.wp P a w K Q := by
  by_cases h0 : A = none
  · subst h0
    have hm0 : m = 0 := by
      by_cases e0 : 0 < m
      · obtain ⟨_, e, _⟩ := hp.2 e0; cases e
      · omega
    subst hm0
    have hnil : news = [] := List.eq_nil_of_length_eq_zero (by have := hp.1; omega)
    subst hnil
    obtain ⟨i0, hi, hz0, hzz, hz2⟩ := info_parts hinfo
    have hr := run_append_noneC (P := P) (w := w) base t o.type e i0 size ht hi v n c xs hown
    unfold Oper.wp execOp
    simp only [ho, resolve, invoke, builtin, Sem.run_bind, Sem.run_pure, Result.andThen_ok, List.map_toArray, List.map_cons, List.map_nil, hs, hx, hr]
    exact h v w (by simpa using hown) ⟨rfl, rfl, rfl, Nat.le_refl _, fun _ _ _ => rfl⟩
  · obtain ⟨ad, rfl⟩ := Option.ne_none_iff_exists'.1 h0
    have hmm : (n + m) * bytes ≤ 140737488355328 := by
      have := Nat.mul_le_mul_left (n + m) hb8
      omega
    obtain ⟨i0, hi, hz0, hzz, hz2⟩ := info_parts hinfo
    refine wp_append_own w s x t ho base e i0 z size bytes ht hi hz0 hzz hz2 hz1 hsz v n xs hs hown ad m c news hx hp.1 (fun j u hu => ?_) h1 (by unfold maxLen; omega) hmm hbase (fun v' w' a b _ => h v' w' a b)
    have hj := (List.getElem?_eq_some_iff.1 hu).1
    rw [hp.1] at hj
    obtain ⟨ad', e, _, hcell⟩ := hp.2 (by
      rcases Nat.eq_zero_or_pos m with h2 | h2
      · subst h2; omega
      · exact h2)
    injection e with e
    subst e
    exact hcell j u hu
theorem app_rdS {P : Program} {ops : Array Oper} {rest : List Oper} {o : Oper} {a : Act} {w : World} {Q : Exit → Act → World → Prop} (hgd : o.guard = none) (s x : Operand) {t e : TypeId} {z : Value} {size bytes : Nat}
    (ht : P.underlying t = some (.slice e)) (hinfo : (P.info? e).map (fun i => (i.zero, i.size, i.bytes)) = some (some z, size, bytes)) (hz1 : z.cells.size = size) (hsz : 0 < size) (hb8 : bytes ≤ 1000)
    (ho : o.op = .call { callee := .builtin .append, args := #[s, x], argTypes := #[t, t] })
    (base : Nat) (v : Value) (n : Nat) (xs : List Value) (hs : a.eval s = v) (hown : w.ownsRow base e size v n xs)
    (A : Option Addr) (m c B : Nat) (news : List Value) (hx : a.eval x = .slice A m c) (hp : Reads w B size A m news) (h1 : ∀ u ∈ news, u.oneCell' = true) (hn : n + m ≤ 1000000000) (hbase : base ≤ w.heap.size)
    (h : ∀ v' w', w'.ownsRow base e size v' (n + m) (xs ++ news) → w.grownBy w' v.ownBlock → wpList P ops Q rest (a.put o.dst v') w') : wpList P ops Q (o :: rest) a w :=
  wpList_plain hgd fun _ hK => wp_rdS s x ht hinfo hz1 hsz hb8 ho base v n xs hs hown A m c B news hx hp h1 hn hbase fun v' w' h1 h2 => hK _ _ (h v' w' h1 h2)
theorem step_rdS {P : Program} {ops : Array Oper} {o : Oper} {a : Act} {w : World} {K : Act → World → Prop} {Q : Exit → Act → World → Prop} {E : Prop} (hgd : o.guard = none) (s x : Operand) {t e : TypeId} {z : Value} {size bytes : Nat}
    (ht : P.underlying t = some (.slice e)) (hinfo : (P.info? e).map (fun i => (i.zero, i.size, i.bytes)) = some (some z, size, bytes)) (hz1 : z.cells.size = size) (hsz : 0 < size) (hb8 : bytes ≤ 1000)
    (ho : o.op = .call { callee := .builtin .append, args := #[s, x], argTypes := #[t, t] })
    (base : Nat) (v : Value) (n : Nat) (xs : List Value) (hs : a.eval s = v) (hown : w.ownsRow base e size v n xs)
    (A : Option Addr) (m c B : Nat) (news : List Value) (hx : a.eval x = .slice A m c) (hp : Reads w B size A m news) (h1 : ∀ u ∈ news, u.oneCell' = true) (hn : n + m ≤ 1000000000) (hbase : base ≤ w.heap.size)
    (h : ∀ v' w', w'.ownsRow base e size v' (n + m) (xs ++ news) → w.grownBy w' v.ownBlock → K (a.put o.dst v') w') :
    if Region.wanted o (yielded ops a.tmps) = true then Oper.wp P o a w K Q else E := by
  rw [if_pos (by simp [Region.wanted, hgd])]
  exact wp_rdS s x ht hinfo hz1 hsz hb8 ho base v n xs hs hown A m c B news hx hp h1 hn hbase h
theorem Try.infoNode : (Try.prog.info? 78).map (fun i => (i.zero, i.size, i.bytes)) = some (some (.agg #[.int .i64 0, .int .i64 0, .int .i64 0, .int .i64 0, .bool false, .int .i64 0, .int .i64 0, .int .i64 0]), 8, 64) := by kernel_rfl
theorem Try.infoSign : (Try.prog.info? 76).map (fun i => (i.zero, i.size, i.bytes)) = some (some (.agg #[.string ⟨#[]⟩, .int .i64 0, .int .i64 0, .bool false, .slice none 0 0]), 5, 64) := by kernel_rfl
theorem Try.infoValue : (Try.prog.info? 108).map (fun i => (i.zero, i.size, i.bytes)) = some (some (.agg #[.int .i64 0, .string ⟨#[]⟩, .int .i64 0, .int .i64 0]), 4, 40) := by kernel_rfl
theorem flatN_one {l : List Nd} {u : Value} (h : u ∈ flatN l) : u.oneCell' = true := by
  unfold flatN at h
  obtain ⟨n, _, h2⟩ := List.mem_flatMap.1 h
  simp only [Nd.cells, List.mem_cons, List.not_mem_nil, or_false] at h2
  rcases h2 with rfl | rfl | rfl | rfl | rfl | rfl | rfl | rfl <;> rfl
theorem flatV_one {l : List Vl} {u : Value} (h : u ∈ flatV l) : u.oneCell' = true := by
  unfold flatV at h
  obtain ⟨n, _, h2⟩ := List.mem_flatMap.1 h
  simp only [Vl.cells, List.mem_cons, List.not_mem_nil, or_false] at h2
  rcases h2 with rfl | rfl | rfl | rfl <;> rfl
theorem flatS_one {l : List Sg} {u : Value} (h : u ∈ flatS l) : u.oneCell' = true := by
  unfold flatS at h
  obtain ⟨n, _, h2⟩ := List.mem_flatMap.1 h
  simp only [Sg.cells, List.mem_cons, List.not_mem_nil, or_false] at h2
  rcases h2 with rfl | rfl | rfl | rfl | rfl <;> rfl
theorem own_cap' {w : World} {B n c size : Nat} {e : TypeId} {A : Option Addr} {xs : List Value} (h : w.ownsRow B e size (.slice A n c) n xs) : n ≤ c := by
  rcases h.2 with ⟨h2, h3⟩ | ⟨g, cap, cur, hv, _, _, h3, _⟩
  · omega
  · injection hv with _ _ h4
    omega
theorem free_here {w : World} {cs : Array Value} {T : TypeId} {n j : Nat} (hn : n = w.heap.size) : (w.alloc (.cells cs T)).frozen? ⟨n, j, none⟩ = false := by
  subst hn
  simp
theorem free_old {w : World} {o : Obj} {b j : Nat} (hb : b < w.heap.size) (h : w.frozen? ⟨b, j, none⟩ = false) : (w.alloc o).frozen? ⟨b, j, none⟩ = false := by
  rw [World.frozen?_alloc_past _ _ _ hb]
  exact h
set_option maxRecDepth 100000 in
set_option maxHeartbeats 1000000 in
theorem copyText_any (l : List Nd) (A : Option Addr) (c : Nat) (hl : l.length ≤ 1000000) (w : World) (r : Nds w w.heap.size A l) :
    Calls Try.prog 38 #[.agg #[.slice A l.length c]] w fun e w' => ∃ A' c', e = .returned (.agg #[.slice A' l.length c']) ∧ w'.ownsRow w.heap.size 78 8 (.slice A' l.length c') l.length (flatN l) ∧ Below w.heap.size w w' := by
  obtain ⟨n, hn⟩ : ∃ n, n = l.length := ⟨_, rfl⟩
  obtain ⟨w1, hw1⟩ : ∃ w1, w1 = ((w.alloc (.cells #[.slice A n c] 27)).alloc (.cells #[.slice none 0 0] 27)).alloc (.cells #[] 78) := ⟨_, rfl⟩
  have hb1 : Below w.heap.size w w1 := by rw [hw1]; exact (((Below.refl _ _).alloc (Nat.le_refl _) _).alloc (by simp) _).alloc (by simp; omega) _
  have hz1 : w1.heap.size = w.heap.size + 3 := by rw [hw1]; simp
  have c0 : w1.cell? ⟨w.heap.size, 0, none⟩ = some (.slice A n c) := by rw [hw1]; exact cell_old (cell_old (cell_here rfl rfl))
  have c1 : w1.cell? ⟨w.heap.size + 1, 0, none⟩ = some (.slice none 0 0) := by rw [hw1]; exact cell_old (cell_here (by simp) rfl)
  have f1 : w1.frozen? ⟨w.heap.size + 1, 0, none⟩ = false := by rw [hw1]; exact free_old (by simp) (free_here (by simp))
  have ho : w1.ownsRow (w.heap.size + 2) 78 8 (.slice (some ⟨w.heap.size + 2, 0, none⟩) 0 0) 0 [] := by
    rw [hw1]
    have := own_lit ((w.alloc (.cells #[.slice A n c] 27)).alloc (.cells #[.slice none 0 0] 27)) (B := w.heap.size + 2) 78 #[] (n := 0) (size := 8) (by simp) rfl (by decide)
    simpa using this
  have hr1 : Reads w1 w.heap.size 8 A n (flatN l) := by rw [hn]; exact Reads.below r hb1
  rw [← hn] at hl ⊢
  have HW1 := hid hw1; have HB1 := hid hb1; have HO := hid ho; have HR := hid hr1; have HZ := hid hz1
  clear hw1 hb1 ho hr1 r hn hz1
  go_enter Try.func38, Try.ntmps38
  go_wp2_with (first | (at_builtin; rw [← HW1.out]; refine app_rdS rfl (.tmp 3) (.tmp 5) Try.underlying25 Try.infoNode rfl (by decide) (by decide) rfl (w.heap.size + 2) _ 0 [] rfl HO.out A n c w.heap.size (flatN l) rfl HR.out (fun u hu => flatN_one hu) (by omega) (by have := HZ.out; omega) ?_; intro v6 w6 ho6 hg6; rw [Nat.zero_add, List.nil_append] at ho6; have hne : some (w.heap.size + 1) ≠ (Value.slice (some ⟨w.heap.size + 2, 0, none⟩) 0 0).ownBlock := (by intro e; injection e with e; simp at e); have p6 := hg6.cell c1 hne; have z6 := (World.frozen?_of_block (a := ⟨w.heap.size + 1, 0, none⟩) (hg6.block _ (by show w.heap.size + 1 < _; have := HZ.out; omega) hne)).trans f1; have HB6 := hid (below_app HB1.out HO.out hg6 (by omega) HB1.out.size); obtain ⟨A6, c6, rfl⟩ := own_slice ho6; have HO6 := hid ho6; clear ho6 hg6 hne c0 c1 f1))
  have hq := World.cell?_setCell_same _ _ (.slice A6 n c6) p6
  exact bodyPost_ret (v := .agg #[.slice A6 n c6]) (by simp [results, Try.results38, go_sem, hq]) rfl ⟨A6, c6, rfl, own_base (ownsRow_setCell_other HO6.out (a := ⟨w.heap.size + 1, 0, none⟩) (fun he => by have := (HO6.out.lt _ he).1; simp at this) _) (by omega), HB6.out.setCell (by simp) _⟩
theorem own_type {w : World} {base : Nat} {e : TypeId} {size n : Nat} {v : Value} {xs : List Value} (h : w.ownsRow base e size v n xs) {g : Nat} (hv : v.ownBlock = some g) : ∃ cur, w.heap[g]? = some (.cells cur e (0, 0)) := by
  rcases h.2 with ⟨rfl, _⟩ | ⟨g', cap, cur, rfl, _, hh, _⟩
  · simp [Value.ownBlock] at hv
  · simp [Value.ownBlock] at hv; subst hv; exact ⟨cur, hh⟩
theorem own_ne {w : World} {base base' : Nat} {e e' : TypeId} {size size' n n' : Nat} {v v' : Value} {xs xs' : List Value} (h : w.ownsRow base e size v n xs) (h' : w.ownsRow base' e' size' v' n' xs') (hne : e ≠ e') : v.ownBlock = none ∨ v.ownBlock ≠ v'.ownBlock := by
  cases hv : v.ownBlock with
  | none => exact .inl rfl
  | some g =>
    refine .inr (fun e1 => ?_)
    obtain ⟨c1, h1⟩ := own_type h hv
    obtain ⟨c2, h2⟩ := own_type h' e1.symm
    rw [h1] at h2
    injection h2 with h2
    injection h2 with _ h3 _
    exact hne h3
/-- A sign but for where its values lie. -/
def Sg.core (s : Sg) : Sg := ⟨s.code, s.wide, s.high, s.even, s.vals, none, 0⟩
/-- A copy that is under way. -/
structure CL (P : Int) (ss : List Sg) (B0 : Nat) (w : World) (k : Nat) (done : List Sg) (v : Value) (W : World) : Prop where
  r_ : W.heap[B0 + 1]? = some (.cells #[.int .i64 0, .slice none 0 0] 24 (0, 0))
  m_ : W.heap[B0 + 2]? = some (.cells #[.int .i64 P, v] 24 (0, 0))
  own : W.ownsRow (B0 + 3) 76 5 v done.length (flatS done)
  vals : ∀ s ∈ done, W.ownsRow (B0 + 3) 108 4 (.slice s.va s.vals.length s.vc) s.vals.length (flatV s.vals)
  core : done.map Sg.core = (ss.take k).map Sg.core
  bel : Below B0 w W
theorem set_two {W : World} {g : Nat} {T : TypeId} {x y z : Value} (h : W.heap[g]? = some (.cells #[x, y] T (0, 0))) : (W.setCell ⟨g, 1, none⟩ z).heap[g]? = some (.cells #[x, z] T (0, 0)) := by
  simp [World.setCell, h, Array.getElem?_modify] <;> rfl
theorem flatS_app (a : List Sg) (s : Sg) : flatS (a ++ [s]) = flatS a ++ s.cells := by unfold flatS; rw [List.flatMap_append]; simp
theorem CL.step {P : Int} {ss : List Sg} {B0 k : Nat} {w W W8 W9 : World} {done : List Sg} {v v9 : Value} {s : Sg} (h : CL P ss B0 w k done v W) (hk : k < ss.length) (hs : s.core = (ss[k]).core) (hb : Below W.heap.size W W8)
    (hv : W8.ownsRow W.heap.size 108 4 (.slice s.va s.vals.length s.vc) s.vals.length (flatV s.vals)) (hg : W8.grownBy W9 v.ownBlock) (ho : W9.ownsRow (B0 + 3) 76 5 v9 (done.length + 1) (flatS done ++ s.cells)) :
    CL P ss B0 w (k + 1) (done ++ [s]) v9 (W9.setCell ⟨B0 + 2, 1, none⟩ v9) := by
  have ho8 := own_keep h.own hb
  have hz := lt_of_block h.m_
  have keep : ∀ (j : Nat) (o : Obj), j < B0 + 3 → W.heap[j]? = some o → W9.heap[j]? = some o := fun j o hj hx => by
    have h8 := (hb.block j (lt_of_block hx)).trans hx
    exact (hg.block j (lt_of_block h8) fun e => by have := (ho8.lt _ e.symm).1; omega).trans h8
  have hset : ∀ {base n : Nat} {e : TypeId} {size : Nat} {u : Value} {xs : List Value}, B0 + 3 ≤ base → W9.ownsRow base e size u n xs → (W9.setCell ⟨B0 + 2, 1, none⟩ v9).ownsRow base e size u n xs := fun hB hx =>
    ownsRow_setCell_other hx (a := ⟨B0 + 2, 1, none⟩) (fun he => by have h1 := (hx.lt _ he).1; have h2 : B0 + 2 = (⟨B0 + 2, 1, none⟩ : Addr).block := rfl; omega) v9
  refine ⟨?_, set_two (keep _ _ (by omega) h.m_), ?_, fun t ht => ?_, ?_, ?_⟩
  · exact (Below.heap_setCell _ _ _ _ (by simp)).trans (keep _ _ (by omega) h.r_)
  · rw [List.length_append, flatS_app]
    exact hset (Nat.le_refl _) ho
  · rcases List.mem_append.1 ht with ht | ht
    · exact hset (Nat.le_refl _) ((own_keep (h.vals t ht) hb).kept hg (own_ne (own_keep (h.vals t ht) hb) ho8 (by decide)))
    · obtain rfl := List.mem_singleton.1 ht
      exact hset (Nat.le_refl _) (own_base (hv.kept hg (own_ne hv ho8 (by decide))) (by omega))
  · rw [List.map_append, h.core, List.take_add_one, List.getElem?_eq_getElem hk, Option.toList_some, List.map_append]
    simp [hs]
  · exact ((below_app (h.bel.trans (hb.mono (by omega))) ho8 hg (by omega) (by have := hb.size; omega))).setCell (by simp) _
end Go.Proofs.Ytddbnggficlcfaa
