/- WALK: Apply of the library. -/
import Derived.Test.YtaoddenadfmdbaaApL
import Derived.Test.YtaoddenadfmdbaaExtW
namespace Go.Proofs.Ytaoddenadfmdbaa
open Go.RowKit
/-- A slice of numbers whose elements are appended to another. -/
def Part (w : World) (A : Option Addr) (m c : Nat) (news : List Int) : Prop :=
  news.length = m ∧ ((A = none ∧ m = 0 ∧ c = 0) ∨ ∃ ad, A = some ad ∧ ∀ j u, (ints news)[j]? = some u → w.cell? (ad.add j) = some u)
theorem part_own {w : World} {base n c : Nat} {A : Option Addr} {l : List Int} (h : w.ownsRow base 3 1 (.slice A n c) n (ints l)) : Part w A n c l := by
  have hl : l.length = n := by have := h.1; simpa using this
  refine ⟨hl, ?_⟩
  rcases h.2 with ⟨h1, h2⟩ | ⟨g, cap, cur, h1, _⟩
  · injection h1 with h3 h4 h5
    exact .inl ⟨h3, h4, h5⟩
  · injection h1 with h3 h4 h5
    subst h3
    exact .inr ⟨_, rfl, h.cells (g := g) rfl⟩
theorem part_cut {w : World} {B ca lo hi : Nat} {A : Option Addr} {a : List Int} (r : Rd w B A a) (hn : A = none → ca = 0) (h1 : lo ≤ hi) (h2 : hi ≤ a.length) (hc : a.length ≤ ca) :
    Part w (if ca = lo then A else A.map (fun x => x.add lo)) (hi - lo) (ca - lo) ((a.drop lo).take (hi - lo)) := by
  have hlen : ((a.drop lo).take (hi - lo)).length = hi - lo := by simp; omega
  refine ⟨hlen, ?_⟩
  cases A with
  | none =>
    have := hn rfl
    exact .inl ⟨by split <;> rfl, by omega, by omega⟩
  | some ad =>
    refine .inr ?_
    by_cases hl : ca = lo
    · refine ⟨ad, by rw [if_pos hl], fun j u hu => ?_⟩
      have : (ints ((a.drop lo).take (hi - lo))).length = 0 := by simp; omega
      rw [List.eq_nil_of_length_eq_zero this] at hu
      simp at hu
    · refine ⟨ad.add lo, by rw [if_neg hl]; rfl, fun j u hu => ?_⟩
      rw [add_of_add]
      obtain ⟨hj, hju⟩ := List.getElem?_eq_some_iff.1 hu
      have hj' : j < hi - lo := by simp at hj; omega
      obtain ⟨ad', e, _, hcell⟩ := r.2 (by omega)
      injection e with e
      subst e
      refine hcell (lo + j) u ?_
      rw [← hju]
      simp [ints, List.getElem?_eq_getElem (show lo + j < a.length by omega)]
theorem own_below {w w' : World} {base n size : Nat} {e : TypeId} {v : Value} {xs : List Value} (h : w.ownsRow base e size v n xs) (hb : Below w.heap.size w w') : w'.ownsRow base e size v n xs := by
  refine h.kept (grown_below hb) ?_
  cases hv : v.ownBlock with
  | none => exact .inl rfl
  | some _ => exact .inr (by simp)
theorem own_drew {w : World} {base n size : Nat} {e : TypeId} {v : Value} {xs : List Value} (h : w.ownsRow base e size v n xs) : w.drew.ownsRow base e size v n xs := h
/-- Numbers of a slice appended to a slice of the call's own. -/
theorem wp_line {P : Program} {o : Oper} {a : Act} {w : World} {K : Act → World → Prop} {Q : Exit → Act → World → Prop} (s x : Operand) {t e : TypeId} {z : Value} {bytes : Nat}
    (ht : P.underlying t = some (.slice e)) (hinfo : (P.info? e).map (fun i => (i.zero, i.size, i.bytes)) = some (some z, 1, bytes)) (hz1 : z.cells.size = 1) (hb8 : bytes ≤ 64)
    (ho : o.op = .call { callee := .builtin .append, args := #[s, x], argTypes := #[t, t] })
    (base : Nat) (v : Value) (n : Nat) (l : List Int) (hs : a.eval s = v) (hown : w.ownsRow base e 1 v n (ints l))
    (A : Option Addr) (m c : Nat) (news : List Int) (hx : a.eval x = .slice A m c) (hp : Part w A m c news) (hn : n + m ≤ 1000000000) (hbase : base ≤ w.heap.size)
    (h : ∀ v' w', w'.ownsRow base e 1 v' (n + m) (ints (l ++ news)) → w.grownBy w' v.ownBlock → K (a.put o.dst v') w') : o.wp P a w K Q := by
  obtain ⟨i0, hi, hz0, hzz, hz2⟩ := info_parts hinfo
  rcases hp.2 with ⟨rfl, rfl, rfl⟩ | ⟨ad, rfl, hc⟩
  · have hnil : news = [] := List.eq_nil_of_length_eq_zero hp.1
    subst hnil
    have hr := run_append_owned_none (P := P) w base t o.type e i0 1 ht hi v n (ints l) hown
    unfold Oper.wp execOp
    simp only [ho, resolve, invoke, builtin, Sem.run_bind, Sem.run_pure, Result.andThen_ok, List.map_toArray, List.map_cons, List.map_nil, hs, hx, hr]
    exact h v w (by simpa using hown) ⟨rfl, rfl, rfl, Nat.le_refl _, fun _ _ _ => rfl⟩
  · have hm : (n + m) * bytes ≤ 140737488355328 := by
      have := Nat.mul_le_mul_left (n + m) hb8
      omega
    refine wp_append_own w s x t ho base e i0 z 1 bytes ht hi hz0 hzz hz2 hz1 (by decide) v n (ints l) hs hown ad m c (ints news) hx (by simp [hp.1]) hc (by intro u hu; obtain ⟨y, _, rfl⟩ := List.mem_map.1 hu; rfl) (by unfold maxLen; omega) hm hbase (fun v' w' a b _ => h v' w' (by rw [ints_append]; exact a) b)
theorem app_line {P : Program} {ops : Array Oper} {rest : List Oper} {o : Oper} {a : Act} {w : World} {Q : Exit → Act → World → Prop} (hgd : o.guard = none) (s x : Operand) {t e : TypeId} {z : Value} {bytes : Nat}
    (ht : P.underlying t = some (.slice e)) (hinfo : (P.info? e).map (fun i => (i.zero, i.size, i.bytes)) = some (some z, 1, bytes)) (hz1 : z.cells.size = 1) (hb8 : bytes ≤ 64)
    (ho : o.op = .call { callee := .builtin .append, args := #[s, x], argTypes := #[t, t] })
    (base : Nat) (v : Value) (n : Nat) (l : List Int) (hs : a.eval s = v) (hown : w.ownsRow base e 1 v n (ints l))
    (A : Option Addr) (m c : Nat) (news : List Int) (hx : a.eval x = .slice A m c) (hp : Part w A m c news) (hn : n + m ≤ 1000000000) (hbase : base ≤ w.heap.size)
    (h : ∀ v' w', w'.ownsRow base e 1 v' (n + m) (ints (l ++ news)) → w.grownBy w' v.ownBlock → wpList P ops Q rest (a.put o.dst v') w') : wpList P ops Q (o :: rest) a w :=
  wpList_plain hgd fun _ hK => wp_line s x ht hinfo hz1 hb8 ho base v n l hs hown A m c news hx hp hn hbase fun v' w' h1 h2 => hK _ _ (h v' w' h1 h2)
theorem step_line {P : Program} {ops : Array Oper} {o : Oper} {a : Act} {w : World} {K : Act → World → Prop} {Q : Exit → Act → World → Prop} {E : Prop} (hgd : o.guard = none) (s x : Operand) {t e : TypeId} {z : Value} {bytes : Nat}
    (ht : P.underlying t = some (.slice e)) (hinfo : (P.info? e).map (fun i => (i.zero, i.size, i.bytes)) = some (some z, 1, bytes)) (hz1 : z.cells.size = 1) (hb8 : bytes ≤ 64)
    (ho : o.op = .call { callee := .builtin .append, args := #[s, x], argTypes := #[t, t] })
    (base : Nat) (v : Value) (n : Nat) (l : List Int) (hs : a.eval s = v) (hown : w.ownsRow base e 1 v n (ints l))
    (A : Option Addr) (m c : Nat) (news : List Int) (hx : a.eval x = .slice A m c) (hp : Part w A m c news) (hn : n + m ≤ 1000000000) (hbase : base ≤ w.heap.size)
    (h : ∀ v' w', w'.ownsRow base e 1 v' (n + m) (ints (l ++ news)) → w.grownBy w' v.ownBlock → K (a.put o.dst v') w') :
    if Region.wanted o (yielded ops a.tmps) = true then Oper.wp P o a w K Q else E := by
  rw [if_pos (by simp [Region.wanted, hgd])]
  exact wp_line s x ht hinfo hz1 hb8 ho base v n l hs hown A m c news hx hp hn hbase h
end Go.Proofs.Ytaoddenadfmdbaa
