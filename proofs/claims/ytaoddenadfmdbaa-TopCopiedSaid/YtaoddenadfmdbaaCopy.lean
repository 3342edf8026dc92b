/- Copies of lists and texts: ostraconref02.Copy, ostraconref01.Copy. -/
import Derived.Test.YtaoddenadfmdbaaOwn
import Derived.Test.YtaoddenadfmdbaaUtil
import Derived.Lib.AppendZerosOnto
import Derived.Lib.Walk
import Derived.Lib.SliceRun
namespace Go.Proofs.Ytaoddenadfmdbaa
open Go.RowKit
theorem run_append_noneC {P : Program} {w : World} (base : Nat) (t ty e : TypeId) (i : TypeInfo) (size : Nat) (ht : P.underlying t = some (.slice e)) (hi : P.info? e = some i)
    (v : Value) (n c : Nat) (xs : List Value) (hown : w.ownsRow base e size v n xs) :
    (Builtin.append_ #[t, t] ty #[v, .slice none 0 c]).run P w = .ok v w := by
  rcases hown.2 with ⟨rfl, rfl⟩ | ⟨g, cap, cur, rfl, _, _, hnc, _⟩
  · simp [Builtin.append_, run_underlying ht, sizeOf, typeInfo, hi, Builtin.lenOf, Builtin.firstCells]
  · simp [Builtin.append_, run_underlying ht, sizeOf, typeInfo, hi, Builtin.lenOf, Builtin.firstCells, hnc, storeCells]
/-- A whole slice of structs, which may be nil, is appended to a slice of the call's own. -/
theorem wp_rdS {P : Program} {o : Oper} {a : Act} {w : World} {K : Act → World → Prop} {Q : Exit → Act → World → Prop} (s x : Operand) {t e : TypeId} {z : Value} {size bytes : Nat}
    (ht : P.underlying t = some (.slice e)) (hinfo : (P.info? e).map (fun i => (i.zero, i.size, i.bytes)) = some (some z, size, bytes)) (hz1 : z.cells.size = size) (hsz : 0 < size) (hb8 : bytes ≤ 1000)
    (ho : o.op = .call { callee := .builtin .append, args := #[s, x], argTypes := #[t, t] })
    (base : Nat) (v : Value) (n : Nat) (xs : List Value) (hs : a.eval s = v) (hown : w.ownsRow base e size v n xs)
    (A : Option Addr) (m c B : Nat) (news : List Value) (hx : a.eval x = .slice A m c) (hp : Reads w B size A m news) (h1 : ∀ u ∈ news, u.oneCell' = true) (hn : n + m ≤ 1000000000) (hbase : base ≤ w.heap.size)
    (h : ∀ v' w', w'.ownsRow base e size v' (n + m) (xs ++ news) → w.grownBy w' v.ownBlock → K (a.put o.dst v') w') : o.wp P a w K Q := by
  by_cases h0 : A = none
  · subst h0
    have hm0 : m = 0 := by
      by_cases e0 : 0 < m
      · obtain ⟨_, e, _⟩ := hp.2 e0; cases e
      · omega
    subst hm0
    have hnil : news = [] := List.eq_nil_of_length_eq_zero (by have := hp.1; omega)
    subst hnil
    obtain ⟨i0, hi, hz0, hzz, hz2⟩ := info_parts hinfo
    have hr := run_append_noneC (P := P) (w := w) base t o.type e i0 size ht hi v n c xs hown
    unfold Oper.wp execOp
    simp only [ho, resolve, invoke, builtin, Sem.run_bind, Sem.run_pure, Result.andThen_ok, List.map_toArray, List.map_cons, List.map_nil, hs, hx, hr]
    exact h v w (by simpa using hown) ⟨rfl, rfl, rfl, Nat.le_refl _, fun _ _ _ => rfl⟩
  · obtain ⟨ad, rfl⟩ := Option.ne_none_iff_exists'.1 h0
    have hmm : (n + m) * bytes ≤ 140737488355328 := by
      have := Nat.mul_le_mul_left (n + m) hb8
      omega
    obtain ⟨i0, hi, hz0, hzz, hz2⟩ := info_parts hinfo
    refine wp_append_own w s x t ho base e i0 z size bytes ht hi hz0 hzz hz2 hz1 hsz v n xs hs hown ad m c news hx hp.1 (fun j u hu => ?_) h1 (by unfold maxLen; omega) hmm hbase (fun v' w' a b _ => h v' w' a b)
    have hj := (List.getElem?_eq_some_iff.1 hu).1
    rw [hp.1] at hj
    obtain ⟨ad', e, _, hcell⟩ := hp.2 (by
      rcases Nat.eq_zero_or_pos m with h2 | h2
      · subst h2; omega
      · exact h2)
    injection e with e
    subst e
    exact hcell j u hu
theorem app_rdS {P : Program} {ops : Array Oper} {rest : List Oper} {o : Oper} {a : Act} {w : World} {Q : Exit → Act → World → Prop} (hgd : o.guard = none) (s x : Operand) {t e : TypeId} {z : Value} {size bytes : Nat}
    (ht : P.underlying t = some (.slice e)) (hinfo : (P.info? e).map (fun i => (i.zero, i.size, i.bytes)) = some (some z, size, bytes)) (hz1 : z.cells.size = size) (hsz : 0 < size) (hb8 : bytes ≤ 1000)
    (ho : o.op = .call { callee := .builtin .append, args := #[s, x], argTypes := #[t, t] })
    (base : Nat) (v : Value) (n : Nat) (xs : List Value) (hs : a.eval s = v) (hown : w.ownsRow base e size v n xs)
    (A : Option Addr) (m c B : Nat) (news : List Value) (hx : a.eval x = .slice A m c) (hp : Reads w B size A m news) (h1 : ∀ u ∈ news, u.oneCell' = true) (hn : n + m ≤ 1000000000) (hbase : base ≤ w.heap.size)
    (h : ∀ v' w', w'.ownsRow base e size v' (n + m) (xs ++ news) → w.grownBy w' v.ownBlock → wpList P ops Q rest (a.put o.dst v') w') : wpList P ops Q (o :: rest) a w :=
  wpList_plain hgd fun _ hK => wp_rdS s x ht hinfo hz1 hsz hb8 ho base v n xs hs hown A m c B news hx hp h1 hn hbase fun v' w' h1 h2 => hK _ _ (h v' w' h1 h2)
theorem Try.infoSign : (Try.prog.info? 56).map (fun i => (i.zero, i.size, i.bytes)) = some (some (.agg #[.string ⟨#[]⟩, .int .i64 0, .int .i64 0, .bool false, .slice none 0 0]), 5, 64) := by kernel_rfl
theorem Try.infoValue : (Try.prog.info? 86).map (fun i => (i.zero, i.size, i.bytes)) = some (some (.agg #[.int .i64 0, .string ⟨#[]⟩, .int .i64 0, .int .i64 0]), 4, 40) := by kernel_rfl
theorem flatV_one {l : List Vl} {u : Value} (h : u ∈ flatV l) : u.oneCell' = true := by
  unfold flatV at h
  obtain ⟨n, _, h2⟩ := List.mem_flatMap.1 h
  simp only [Vl.cells, List.mem_cons, List.not_mem_nil, or_false] at h2
  rcases h2 with rfl | rfl | rfl | rfl <;> rfl
theorem flatS_one {l : List Sg} {u : Value} (h : u ∈ flatS l) : u.oneCell' = true := by
  unfold flatS at h
  obtain ⟨n, _, h2⟩ := List.mem_flatMap.1 h
  simp only [Sg.cells, List.mem_cons, List.not_mem_nil, or_false] at h2
  rcases h2 with rfl | rfl | rfl | rfl | rfl <;> rfl
theorem free_here {w : World} {cs : Array Value} {T : TypeId} {n j : Nat} (hn : n = w.heap.size) : (w.alloc (.cells cs T)).frozen? ⟨n, j, none⟩ = false := by
  subst hn
  simp
theorem free_old {w : World} {o : Obj} {b j : Nat} (hb : b < w.heap.size) (h : w.frozen? ⟨b, j, none⟩ = false) : (w.alloc o).frozen? ⟨b, j, none⟩ = false := by
  rw [World.frozen?_alloc_past _ _ _ hb]
  exact h
theorem own_type {w : World} {base : Nat} {e : TypeId} {size n : Nat} {v : Value} {xs : List Value} (h : w.ownsRow base e size v n xs) {g : Nat} (hv : v.ownBlock = some g) : ∃ cur, w.heap[g]? = some (.cells cur e (0, 0)) := by
  rcases h.2 with ⟨rfl, _⟩ | ⟨g', cap, cur, rfl, _, hh, _⟩
  · simp [Value.ownBlock] at hv
  · simp [Value.ownBlock] at hv; subst hv; exact ⟨cur, hh⟩
theorem own_ne {w : World} {base base' : Nat} {e e' : TypeId} {size size' n n' : Nat} {v v' : Value} {xs xs' : List Value} (h : w.ownsRow base e size v n xs) (h' : w.ownsRow base' e' size' v' n' xs') (hne : e ≠ e') : v.ownBlock = none ∨ v.ownBlock ≠ v'.ownBlock := by
  cases hv : v.ownBlock with
  | none => exact .inl rfl
  | some g =>
    refine .inr (fun e1 => ?_)
    obtain ⟨c1, h1⟩ := own_type h hv
    obtain ⟨c2, h2⟩ := own_type h' e1.symm
    rw [h1] at h2
    injection h2 with h2
    injection h2 with _ h3 _
    exact hne h3
/-- A sign but for where its values lie. -/
def Sg.core (s : Sg) : Sg := ⟨s.code, s.wide, s.high, s.even, s.vals, none, 0⟩
/-- A copy that is under way. -/
structure CL (P : Int) (ss : List Sg) (B0 : Nat) (w : World) (k : Nat) (done : List Sg) (v : Value) (W : World) : Prop where
  r_ : W.heap[B0 + 1]? = some (.cells #[.int .i64 0, .slice none 0 0] 24 (0, 0))
  m_ : W.heap[B0 + 2]? = some (.cells #[.int .i64 P, v] 24 (0, 0))
  own : W.ownsRow (B0 + 3) 56 5 v done.length (flatS done)
  vals : ∀ s ∈ done, W.ownsRow (B0 + 3) 86 4 (.slice s.va s.vals.length s.vc) s.vals.length (flatV s.vals)
  core : done.map Sg.core = (ss.take k).map Sg.core
  bel : Below B0 w W
theorem set_two {W : World} {g : Nat} {T : TypeId} {x y z : Value} (h : W.heap[g]? = some (.cells #[x, y] T (0, 0))) : (W.setCell ⟨g, 1, none⟩ z).heap[g]? = some (.cells #[x, z] T (0, 0)) := by
  simp [World.setCell, h, Array.getElem?_modify] <;> rfl
theorem flatS_app (a : List Sg) (s : Sg) : flatS (a ++ [s]) = flatS a ++ s.cells := by unfold flatS; rw [List.flatMap_append]; simp
theorem CL.step {P : Int} {ss : List Sg} {B0 k : Nat} {w W W8 W9 : World} {done : List Sg} {v v9 : Value} {s : Sg} (h : CL P ss B0 w k done v W) (hk : k < ss.length) (hs : s.core = (ss[k]).core) (hb : Below W.heap.size W W8)
    (hv : W8.ownsRow W.heap.size 86 4 (.slice s.va s.vals.length s.vc) s.vals.length (flatV s.vals)) (hg : W8.grownBy W9 v.ownBlock) (ho : W9.ownsRow (B0 + 3) 56 5 v9 (done.length + 1) (flatS done ++ s.cells)) :
    CL P ss B0 w (k + 1) (done ++ [s]) v9 (W9.setCell ⟨B0 + 2, 1, none⟩ v9) := by
  have ho8 := own_keep h.own hb
  have hz := lt_of_block h.m_
  have keep : ∀ (j : Nat) (o : Obj), j < B0 + 3 → W.heap[j]? = some o → W9.heap[j]? = some o := fun j o hj hx => by
    have h8 := (hb.block j (lt_of_block hx)).trans hx
    exact (hg.block j (lt_of_block h8) fun e => by have := (ho8.lt _ e.symm).1; omega).trans h8
  have hset : ∀ {base n : Nat} {e : TypeId} {size : Nat} {u : Value} {xs : List Value}, B0 + 3 ≤ base → W9.ownsRow base e size u n xs → (W9.setCell ⟨B0 + 2, 1, none⟩ v9).ownsRow base e size u n xs := fun hB hx =>
    ownsRow_setCell_other hx (a := ⟨B0 + 2, 1, none⟩) (fun he => by have h1 := (hx.lt _ he).1; have h2 : B0 + 2 = (⟨B0 + 2, 1, none⟩ : Addr).block := rfl; omega) v9
  refine ⟨?_, set_two (keep _ _ (by omega) h.m_), ?_, fun t ht => ?_, ?_, ?_⟩
  · exact (Below.heap_setCell _ _ _ _ (by simp)).trans (keep _ _ (by omega) h.r_)
  · rw [List.length_append, flatS_app]
    exact hset (Nat.le_refl _) ho
  · rcases List.mem_append.1 ht with ht | ht
    · exact hset (Nat.le_refl _) ((own_keep (h.vals t ht) hb).kept hg (own_ne (own_keep (h.vals t ht) hb) ho8 (by decide)))
    · obtain rfl := List.mem_singleton.1 ht
      exact hset (Nat.le_refl _) (own_base (hv.kept hg (own_ne hv ho8 (by decide))) (by omega))
  · rw [List.map_append, h.core, List.take_add_one, List.getElem?_eq_getElem hk, Option.toList_some, List.map_append]
    simp [hs]
  · exact ((below_app (h.bel.trans (hb.mono (by omega))) ho8 hg (by omega) (by have := hb.size; omega))).setCell (by simp) _
end Go.Proofs.Ytaoddenadfmdbaa

/- ostraconref01.Copy. -/
namespace Go.Proofs.Ytaoddenadfmdbaa
open Go.RowKit
/-- What a copy of a list is: rows of its own, from a block on. -/
structure LCopy (ss ss' : List Sg) (B : Nat) (A' : Option Addr) (c' : Nat) (w' : World) : Prop where
  own : w'.ownsRow B 56 5 (.slice A' ss'.length c') ss'.length (flatS ss')
  vals : ∀ s ∈ ss', w'.ownsRow B 86 4 (.slice s.va s.vals.length s.vc) s.vals.length (flatV s.vals)
  core : ss'.map Sg.core = ss.map Sg.core
theorem LCopy.len {ss ss' : List Sg} {B : Nat} {A' : Option Addr} {c' : Nat} {w' : World} (h : LCopy ss ss' B A' c' w') : ss'.length = ss.length := by
  have := congrArg List.length h.core
  simpa using this
theorem LCopy.set {ss ss' : List Sg} {B b j : Nat} {A' : Option Addr} {c' : Nat} {w' : World} {v : Value} (h : LCopy ss ss' B A' c' w') (hb : b < B) : LCopy ss ss' B A' c' (w'.setCell ⟨b, j, none⟩ v) := by
  have hset : ∀ {base n : Nat} {e : TypeId} {size : Nat} {u : Value} {xs : List Value}, B ≤ base → w'.ownsRow base e size u n xs → (w'.setCell ⟨b, j, none⟩ v).ownsRow base e size u n xs := fun hB hx =>
    ownsRow_setCell_other hx (a := ⟨b, j, none⟩) (fun he => by have h1 := (hx.lt _ he).1; have h2 : b = (⟨b, j, none⟩ : Addr).block := rfl; omega) v
  exact ⟨hset (Nat.le_refl _) h.own, fun s hs => hset (Nat.le_refl _) (h.vals s hs), h.core⟩
theorem LCopy.base {ss ss' : List Sg} {B B' : Nat} {A' : Option Addr} {c' : Nat} {w' : World} (h : LCopy ss ss' B A' c' w') (hb : B' ≤ B) : LCopy ss ss' B' A' c' w' := ⟨own_base h.own hb, fun s hs => own_base (h.vals s hs) hb, h.core⟩
theorem LCopy.below {ss ss' : List Sg} {B : Nat} {A' : Option Addr} {c' : Nat} {w' W : World} (h : LCopy ss ss' B A' c' w') (hb : Below w'.heap.size w' W) : LCopy ss ss' B A' c' W := ⟨own_keep h.own hb, fun s hs => own_keep (h.vals s hs) hb, h.core⟩
theorem heap_nw {w : World} {o : Obj} {n : Nat} (hn : n = w.heap.size) : (w.alloc o).heap[n]? = some o := by subst hn; exact heap_alloc_new w o
theorem heap_od {w : World} {o x : Obj} {k : Nat} (h : w.heap[k]? = some x) : (w.alloc o).heap[k]? = some x := (Below.heap_alloc _ _ _ (lt_of_block h)).trans h
theorem cell_two {W : World} {g : Nat} {T : TypeId} {x y : Value} (h : W.heap[g]? = some (.cells #[x, y] T (0, 0))) : W.cell? ⟨g, 0, none⟩ = some x ∧ W.cell? ⟨g, 1, none⟩ = some y ∧ (∀ j, W.frozen? ⟨g, j, none⟩ = false) := by
  refine ⟨?_, ?_, fun j => ?_⟩ <;> simp [World.cell?, World.frozen?, h]
theorem CL.done {P : Int} {ss : List Sg} {w : World} {done : List Sg} {A : Option Addr} {cap : Nat} {W : World} (h : CL P ss w.heap.size w ss.length done (.slice A done.length cap) W) (x y : Value) :
    LCopy ss done w.heap.size A cap ((W.setCell ⟨w.heap.size + 1, 0, none⟩ x).setCell ⟨w.heap.size + 1, 1, none⟩ y) ∧ Below w.heap.size w ((W.setCell ⟨w.heap.size + 1, 0, none⟩ x).setCell ⟨w.heap.size + 1, 1, none⟩ y) := by
  have h0 : LCopy ss done (w.heap.size + 3) A cap W := ⟨h.own, h.vals, by have := h.core; rwa [List.take_length] at this⟩
  exact ⟨((h0.set (by omega)).set (by omega)).base (by omega), (h.bel.setCell (by simp) _).setCell (by simp) _⟩
theorem copy_one {w w6 : World} {a0 a1 a2 a3 a4 : Value} {T T2 : TypeId} (hg : ((w.alloc (.cells #[a0, a1, a2, a3, a4] T)).alloc (.cells #[] T2)).grownBy w6 (Value.slice (some ⟨w.heap.size + 1, 0, none⟩) 0 0).ownBlock) :
    w6.cell? ⟨w.heap.size, 0, none⟩ = some a0 ∧ w6.cell? ⟨w.heap.size, 1, none⟩ = some a1 ∧ w6.cell? ⟨w.heap.size, 2, none⟩ = some a2 ∧ w6.cell? ⟨w.heap.size, 3, none⟩ = some a3 ∧ w6.cell? ⟨w.heap.size, 4, none⟩ = some a4 ∧
      w6.frozen? ⟨w.heap.size, 4, none⟩ = false ∧ w.heap.size < w6.heap.size ∧ Below w.heap.size w w6 := by
  have hne : ∀ o, some (⟨w.heap.size, o, none⟩ : Addr).block ≠ (Value.slice (some ⟨w.heap.size + 1, 0, none⟩) 0 0).ownBlock := fun o e => by
    have e2 : w.heap.size = w.heap.size + 1 := by injection e
    omega
  refine ⟨hg.cell (cell_old (cell_here rfl rfl)) (hne _), hg.cell (cell_old (cell_here rfl rfl)) (hne _), hg.cell (cell_old (cell_here rfl rfl)) (hne _), hg.cell (cell_old (cell_here rfl rfl)) (hne _), hg.cell (cell_old (cell_here rfl rfl)) (hne _), ?_, by have := hg.size; simp at this; omega, ?_⟩
  · exact (World.frozen?_of_block (a := ⟨w.heap.size, 4, none⟩) (hg.block _ (by show w.heap.size < _; simp; omega) (hne 4))).trans (free_old (by simp) (free_here rfl))
  · exact (((Below.refl _ _).alloc (Nat.le_refl _) _).alloc (by simp) _).grown hg (by simp; omega) fun k e => by
      have e2 : w.heap.size + 1 = k := by injection e
      omega
theorem copy_two {P : Int} {ss : List Sg} {k : Nat} {w wr w6 : World} {done : List Sg} {A5 A6 : Option Addr} {c5 c6 : Nat} {co : ByteArray} {wi hi : Int} {ev : Bool} {vs : List Vl} (hC : CL P ss w.heap.size w k done (.slice A5 done.length c5) wr) (hk : k < ss.length)
    (hs : (⟨co, wi, hi, ev, vs, A6, c6⟩ : Sg).core = (ss[k]).core) (hB6 : Below wr.heap.size wr w6) (hzl : wr.heap.size < w6.heap.size) (ho6 : w6.ownsRow (wr.heap.size + 1) 86 4 (.slice A6 vs.length c6) vs.length (flatV vs)) (x : Obj) :
    ((w6.setCell ⟨wr.heap.size, 4, none⟩ (.slice A6 vs.length c6)).alloc x).ownsRow (w.heap.size + 3) 56 5 (.slice A5 done.length c5) done.length (flatS done) ∧ w.heap.size + 3 ≤ ((w6.setCell ⟨wr.heap.size, 4, none⟩ (.slice A6 vs.length c6)).alloc x).heap.size ∧
      ∀ (v9 : Value) (w9 : World), w9.ownsRow (w.heap.size + 3) 56 5 v9 (done.length + 1) (flatS done ++ (⟨co, wi, hi, ev, vs, A6, c6⟩ : Sg).cells) → ((w6.setCell ⟨wr.heap.size, 4, none⟩ (.slice A6 vs.length c6)).alloc x).grownBy w9 (Value.slice A5 done.length c5).ownBlock →
        CL P ss w.heap.size w (k + 1) (done ++ [⟨co, wi, hi, ev, vs, A6, c6⟩]) v9 (w9.setCell ⟨w.heap.size + 2, 1, none⟩ v9) ∧ w9.cell? ⟨w.heap.size + 2, 1, none⟩ = some (.slice A5 done.length c5) ∧ w9.frozen? ⟨w.heap.size + 2, 1, none⟩ = false ∧ Below (w.heap.size + 1) wr (w9.setCell ⟨w.heap.size + 2, 1, none⟩ v9) := by
  have hb8 : Below wr.heap.size wr ((w6.setCell ⟨wr.heap.size, 4, none⟩ (.slice A6 vs.length c6)).alloc x) := (hB6.setCell (by simp) _).alloc (by simp [World.setCell]; omega) _
  have ho8 := own_keep hC.own hb8
  have hz := lt_of_block hC.m_
  have hm8 := (hb8.block _ hz).trans hC.m_
  have hv8 : ((w6.setCell ⟨wr.heap.size, 4, none⟩ (.slice A6 vs.length c6)).alloc x).ownsRow wr.heap.size 86 4 (.slice A6 vs.length c6) vs.length (flatV vs) :=
    own_base ((ownsRow_setCell_other ho6 (a := ⟨wr.heap.size, 4, none⟩) (fun he => by have h1 := (ho6.lt _ he).1; have h2 : wr.heap.size = (⟨wr.heap.size, 4, none⟩ : Addr).block := rfl; omega) _).alloc x) (by omega)
  refine ⟨ho8, by have := hb8.size; omega, fun v9 w9 ho9 hg9 => ?_⟩
  have hne : some (w.heap.size + 2) ≠ (Value.slice A5 done.length c5).ownBlock := fun e => by have := (ho8.lt _ e.symm).1; omega
  have hm9 : w9.heap[w.heap.size + 2]? = some (.cells #[.int .i64 P, .slice A5 done.length c5] 24 (0, 0)) := (hg9.block _ (lt_of_block hm8) hne).trans hm8
  have c9 := cell_two hm9
  refine ⟨hC.step hk hs hb8 hv8 hg9 ho9, c9.2.1, c9.2.2 1, ?_⟩
  exact (below_app (hb8.mono (by omega)) ho8 hg9 (by omega) (by have := hb8.size; omega)).setCell (by simp) _
set_option maxRecDepth 100000 in
set_option maxHeartbeats 4000000 in
theorem copyList_any (P : Int) (ss : List Sg) (A : Option Addr) (c : Nat) (hl : ss.length ≤ 1000000) (hv : ∀ s ∈ ss, s.vals.length ≤ 1000000) (w : World) (r : Sgs w w.heap.size A ss) :
    Calls Try.prog 6 #[.agg #[.int .i64 P, .slice A ss.length c]] w fun e w' => ∃ A' c' ss', e = .returned (.agg #[.int .i64 P, .slice A' ss'.length c']) ∧ LCopy ss ss' w.heap.size A' c' w' ∧ Below w.heap.size w w' := by
  obtain ⟨n, hn⟩ : ∃ n, n = ss.length := ⟨_, rfl⟩
  obtain ⟨w1, hw1⟩ : ∃ w1, w1 = ((w.alloc (.cells #[.int .i64 P, .slice A n c] 24)).alloc (.cells #[.int .i64 0, .slice none 0 0] 24)).alloc (.cells #[.int .i64 P, .slice none 0 0] 24) := ⟨_, rfl⟩
  have hb1 : Below w.heap.size w w1 := by rw [hw1]; exact (((Below.refl _ _).alloc (Nat.le_refl _) _).alloc (by simp) _).alloc (by simp; omega) _
  have hz1 : w1.heap.size = w.heap.size + 3 := by rw [hw1]; simp
  have c0 : w1.cell? ⟨w.heap.size, 1, none⟩ = some (.slice A n c) := by rw [hw1]; exact cell_old (cell_old (cell_here rfl rfl))
  have hCL : CL P ss w.heap.size w 0 [] (.slice none 0 0) w1 := by
    refine ⟨?_, ?_, World.ownsRow_nil _ _ _ _, fun s hs => (by cases hs), rfl, hb1⟩
    · rw [hw1]; exact heap_od (heap_nw (by simp))
    · rw [hw1]; exact heap_nw (by simp)
  have r1 : Sgs w1 w.heap.size A ss := r.below hb1
  have HW1 := hid hw1; have HB1 := hid hb1; have HR := hid r1; have HN := hid hn; have HCL := hid hCL; have HV := hid hv; have HZ1 := hid hz1
  rw [← hn] at hl ⊢
  clear hw1 hb1 r1 r hn hCL hv hz1
  go_enter Try.func6, Try.ntmps6
  go_wp2_with fail
  rw [← HW1.out]
  have hzz : w.heap.size + 2 < w1.heap.size := by have := HZ1.out; omega
  have HC0 := hid fun (wr : World) (h : Below (w.heap.size + 1) w1 wr) => (h.cell (p := ⟨w.heap.size, 1, none⟩) (by show w.heap.size < _; omega)).trans c0
  clear HW1 HZ1 c0
  simp only [Nat.add_assoc, Nat.reduceAdd]
  go_loopw [4] (fun kv wr => ∃ (k : Nat) (done : List Sg) (v : Value), k ≤ n ∧ kv = .int .i64 k ∧ Hid (CL P ss w.heap.size w k done v wr) ∧ Hid (Below (w.heap.size + 1) w1 wr)) (fun kv _ => n - (intOf kv).toNat)
  case atStart => exact ⟨0, [], _, by omega, rfl, HCL, hid (Below.refl _ _)⟩
  case round =>
    obtain ⟨k, done, v, hk, rfl, hC, hB⟩ := hrel
    have p0 := HC0.out wr hB.out
    obtain ⟨A5, c5, rfl⟩ := own_slice hC.out.own
    have pm := cell_two hC.out.m_
    have pm0 := pm.1; have pm1 := pm.2.1; have zm := pm.2.2 1
    have hzw := lt_of_block hC.out.m_
    clear pm
    by_cases hkn : k < n
    · have hkl : k < ss.length := by rw [← HN.out]; exact hkn
      have hq : (k : Int) < (n : Int) := by omega
      have hmem : ss[k]'hkl ∈ ss := List.getElem_mem hkl
      obtain ⟨b, o, rfl, hb, hc⟩ := HR.out.at (by omega)
      have hx := (hc k hkl).below hB.out (by omega)
      have d1 := hx.code; have d2 := hx.wide; have d3 := hx.high; have d4 := hx.even; have d5 := hx.vals
      have hvl := (HR.out.vls _ hmem).below (hB.out.mono (by omega))
      have hvv := HV.out _ hmem
      obtain ⟨s, hs⟩ : ∃ s, s = ss[k]'hkl := ⟨_, rfl⟩
      rw [← hs] at d1 d2 d3 d4 d5 hvl hvv
      obtain ⟨co, wi, hi, ev, vs, va, vc⟩ := s
      simp only [] at d1 d2 d3 d4 d5 hvl hvv
      obtain ⟨nv, hnv⟩ : ∃ nv, nv = vs.length := ⟨_, rfl⟩
      rw [← hnv] at d5 hvv
      have HNV := hid hnv; have HVL := hid hvl; have HS := hid hs
      have hdl : done.length = k := by
        have := congrArg List.length hC.out.core
        simp at this
        omega
      have HDL := hid hdl
      rw [hdl] at pm1
      clear hx hc hmem hvl hnv hdl hs
      have hba := ((Below.refl wr.heap.size wr).alloc (Nat.le_refl _) (.cells #[.string co, .int .i64 wi, .int .i64 hi, .bool ev, .slice va nv vc] 56)).alloc (by simp) (.cells #[] 86)
      have ho1 : ((wr.alloc (.cells #[.string co, .int .i64 wi, .int .i64 hi, .bool ev, .slice va nv vc] 56)).alloc (.cells #[] 86)).ownsRow (wr.heap.size + 1) 86 4 (.slice (some ⟨wr.heap.size + 1, 0, none⟩) 0 0) 0 [] := by
        have := own_lit (wr.alloc (.cells #[.string co, .int .i64 wi, .int .i64 hi, .bool ev, .slice va nv vc] 56)) (B := wr.heap.size + 1) 86 #[] (n := 0) (size := 4) (by simp) rfl (by decide)
        simpa using this
      have hr1 : Reads ((wr.alloc (.cells #[.string co, .int .i64 wi, .int .i64 hi, .bool ev, .slice va nv vc] 56)).alloc (.cells #[] 86)) w.heap.size 4 va nv (flatV vs) := by
        have h := Reads.below HVL.out (hba.mono (show w.heap.size ≤ wr.heap.size by omega))
        rwa [← HNV.out] at h
      have HO1 := hid ho1; have HR1 := hid hr1; have HBA := hid hba
      have HA1 := hid fun (w6 : World) (v6 : Value) (ho6 : w6.ownsRow (wr.heap.size + 1) 86 4 v6 (0 + nv) ([] ++ flatV vs)) (hg6 : ((wr.alloc (.cells #[.string co, .int .i64 wi, .int .i64 hi, .bool ev, .slice va nv vc] 56)).alloc (.cells #[] 86)).grownBy w6 (Value.slice (some ⟨wr.heap.size + 1, 0, none⟩) 0 0).ownBlock) =>
        copy_one (w := wr) hg6
      clear ho1 hr1 hba
      have hc2 : CL P ss w.heap.size w k done (.slice A5 done.length c5) wr := hC.out
      have H2 := hid fun (w6 : World) (A6 : Option Addr) (c6 : Nat) (hB6 : Below wr.heap.size wr w6) (hzl : wr.heap.size < w6.heap.size) (ho6 : w6.ownsRow (wr.heap.size + 1) 86 4 (.slice A6 vs.length c6) vs.length (flatV vs)) (x : Obj) => copy_two (co := co) (wi := wi) (hi := hi) (ev := ev) hc2 hkl (by rw [← HS.out]; rfl) hB6 hzl ho6 x
      rw [← HNV.out, HDL.out] at H2
      clear hc2
      go_wp2_with (first | (at_builtin; refine app_rdS rfl (.tmp 21) (.tmp 23) Try.underlying54 Try.infoValue rfl (by decide) (by decide) rfl (wr.heap.size + 1) _ 0 [] rfl HO1.out va nv vc w.heap.size (flatV vs) rfl HR1.out (fun u hu => flatV_one hu) (by omega) (by simp) ?_; intro v6 w6 ho6 hg6; obtain ⟨g1, g2, g3, g4, g5, g6, hzl, hB6⟩ := HA1.out w6 v6 ho6 hg6; rw [Nat.zero_add, List.nil_append] at ho6; obtain ⟨A6, c6, rfl⟩ := own_slice ho6; have pm2 := (hB6.cell (p := ⟨w.heap.size + 2, 1, none⟩) hzw).trans pm1; have H3 := hid (H2.out w6 A6 c6 hB6 hzl ho6); clear ho6 hg6 hB6 HA1 H2) | (at_builtin; refine app_elem rfl (.tmp 27) (.tmp 29) Try.underlying22 Try.infoSign rfl (by decide) (by decide) rfl (w.heap.size + 3) _ k (flatS done) rfl (H3.out _).1 ⟨w6.heap.size, 0, none⟩ [.string co, .int .i64 wi, .int .i64 hi, .bool ev, .slice A6 nv c6] rfl rfl (cell_news_at _ _ _ (by simp)) (fun u hu => flatS_one (l := [⟨co, wi, hi, ev, vs, A6, c6⟩]) (by rw [HNV.out] at hu; simpa [flatS, Sg.cells] using hu)) (by omega) (H3.out _).2.1 ?_; intro v9 w9 ho9 hg9; obtain ⟨A9, c9, rfl⟩ := own_slice ho9; obtain ⟨hc9, p9, z9, hb9⟩ := (H3.out _).2.2 _ w9 (by rw [HNV.out] at ho9; exact ho9) hg9; have HC9 := hid hc9; have HB9 := hid hb9; clear ho9 hg9 hc9 hb9))
      go_roundw
      case rel => exact ⟨k + 1, _, _, by omega, by go_num, HC9.out, hB.out.trans HB9.out⟩
      case measure => simp [intOf]; omega
    · obtain rfl : n = k := by omega
      have hCC := hC.out
      rw [HN.out] at hCC
      have hr := cell_two hCC.r_
      have r0 := hr.1; have r1 := hr.2.1; have zr := hr.2.2
      have hz1 := hr.2.2 0; have hz2 := hr.2.2 1
      have hD := hid hCC
      clear hr hCC hC
      go_wp2_with fail
      have hdd := hD.out.done (.int .i64 P) (.slice A5 done.length c5)
      have q0 : ((wr.setCell ⟨w.heap.size + 1, 0, none⟩ (.int .i64 P)).setCell ⟨w.heap.size + 1, 1, none⟩ (.slice A5 done.length c5)).cell? ⟨w.heap.size + 1, 0, none⟩ = some (.int .i64 P) := cell_set_far (World.cell?_setCell_same _ _ _ r0) (.inr (by decide))
      have q1 : ((wr.setCell ⟨w.heap.size + 1, 0, none⟩ (.int .i64 P)).setCell ⟨w.heap.size + 1, 1, none⟩ (.slice A5 done.length c5)).cell? ⟨w.heap.size + 1, 1, none⟩ = some (.slice A5 done.length c5) := World.cell?_setCell_same _ _ _ (cell_set_far r1 (.inr (by decide)))
      exact bodyPost_ret (v := .agg #[.int .i64 P, .slice A5 done.length c5]) (by simp [results, Try.results6, go_sem, q0, q1]) rfl ⟨A5, c5, done, rfl, hdd.1, hdd.2⟩
end Go.Proofs.Ytaoddenadfmdbaa
