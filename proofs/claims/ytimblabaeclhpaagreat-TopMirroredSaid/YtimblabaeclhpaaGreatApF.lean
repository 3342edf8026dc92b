/- BASE: an append that says where the row lies: where it lay, or in new memory. -/
import Derived.Test.YtimblabaeclhpaaGreatBase
namespace Go.Proofs.YtimblabaeclhpaaGreat
open Go.RowKit
theorem run_append_freshS {P : Program} (w : World) (base : Nat) (t ty e : TypeId) (i : TypeInfo) (z : Value) (size bytes : Nat) (ht : P.underlying t = some (.slice e)) (hi : P.info? e = some i) (hz : i.zero = some z)
    (hsize : i.size = size) (hby : i.bytes = bytes) (hzs : z.cells.size = size) (hsz : 0 < size)
    (v : Value) (n : Nat) (xs : List Value) (hown : w.ownsRow base e size v n xs)
    (a : Addr) (c : Nat) (ys : List Value) (hl : ys.length = size) (hy : ∀ j u, ys[j]? = some u → w.cell? (a.add j) = some u) (hy1 : ∀ u ∈ ys, u.oneCell' = true)
    (h63 : n + 1 ≤ maxLen) (hbytes : (n + 1) * bytes ≤ 140737488355328) (hbase : base ≤ w.heap.size) :
    ∃ v' w', (Builtin.append_ #[t, t] ty #[v, .slice (some a) 1 c]).run P w = .ok v' w' ∧ w'.ownsRow base e size v' (n + 1) (xs ++ ys) ∧ w.grownBy w' v.ownBlock ∧ ∀ k, v'.ownBlock = some k → v.ownBlock = some k ∨ w.heap.size ≤ k := by
  obtain ⟨v', w', hr0, h1, h2, _⟩ := run_append_own (P := P) w base t ty e i z size bytes ht hi hz hsize hby hzs hsz v n xs hown a 1 c ys (by omega) hy hy1 h63 hbytes hbase
  refine ⟨v', w', hr0, h1, h2, ?_⟩
  have hn63 : n + 1 ≤ 9223372036854775807 := by simp only [maxLen] at h63; omega
  subst hby
  rcases hown.2 with ⟨rfl, rfl⟩ | ⟨g, cap, cur, rfl, hbg, hg, hnc, hcm, hcs, htake⟩
  · have hr := run_append_nil (P := P) w t ty e i z ht hi hz a 1 c ys (by rw [hsize]; omega) hy (by omega) (by omega) (by omega)
    rw [hr0] at hr
    injection hr with hv _
    subst hv
    intro k hk
    have hk2 : w.heap.size = k := by injection hk
    exact .inr (by omega)
  · by_cases hroom : n + 1 ≤ cap
    · have hr := run_append_room (P := P) w t ty e i ht hi g n cap cur hg a 1 c ys (by rw [hsize]; omega) hy hy1 hroom (by
        rw [hsize, hcs]
        have := Nat.mul_le_mul_right size hroom
        rw [hl, Nat.add_mul] at *
        simp at *
        omega)
      rw [hr0] at hr
      injection hr with hv _
      subst hv
      exact fun k hk => .inl hk
    · have holds : ∀ j u, xs[j]? = some u → w.cell? ((⟨g, 0, none⟩ : Addr).add j) = some u := hown.cells (g := g) rfl
      have hr := run_append_grow (P := P) w t ty e i z ht hi hz ⟨g, 0, none⟩ n cap xs (by rw [hsize]; exact hown.1) holds a 1 c ys (by rw [hsize]; omega) hy (by omega) (by omega) (growslice_fits (by omega) hbytes)
      rw [hr0] at hr
      injection hr with hv _
      subst hv
      intro k hk
      have hk2 : w.heap.size = k := by injection hk
      exact .inr (by omega)
theorem app_elemF {P : Program} {ops : Array Oper} {rest : List Oper} {o : Oper} {a : Act} {w : World} {Q : Exit → Act → World → Prop} (hgd : o.guard = none) (s x : Operand) {t e : TypeId} {z : Value} {size bytes : Nat}
    (ht : P.underlying t = some (.slice e)) (hinfo : (P.info? e).map (fun i => (i.zero, i.size, i.bytes)) = some (some z, size, bytes)) (hz1 : z.cells.size = size) (hsz : 0 < size) (hb8 : bytes ≤ 1000)
    (ho : o.op = .call { callee := .builtin .append, args := #[s, x], argTypes := #[t, t] })
    (base : Nat) (v : Value) (n : Nat) (xs : List Value) (hs : a.eval s = v) (hown : w.ownsRow base e size v n xs)
    (ad : Addr) (ys : List Value) (hx : a.eval x = .slice (some ad) 1 1) (hl : ys.length = size) (hy : ∀ j u, ys[j]? = some u → w.cell? (ad.add j) = some u) (hy1 : ∀ u ∈ ys, u.oneCell' = true) (hn : n ≤ 10000000000) (hbase : base ≤ w.heap.size)
    (h : ∀ v' w', w'.ownsRow base e size v' (n + 1) (xs ++ ys) → w.grownBy w' v.ownBlock → (∀ k, v'.ownBlock = some k → v.ownBlock = some k ∨ w.heap.size ≤ k) → wpList P ops Q rest (a.put o.dst v') w') : wpList P ops Q (o :: rest) a w := by
  obtain ⟨i0, hi, hz0, hzz, hz2⟩ := info_parts hinfo
  have hm : (n + 1) * bytes ≤ 140737488355328 := by
    have := Nat.mul_le_mul_left (n + 1) hb8
    omega
  obtain ⟨v', w', hrun, r1, r2, r3⟩ := run_append_freshS (P := P) w base t o.type e i0 z size bytes ht hi hz0 hzz hz2 hz1 hsz v n xs hown ad 1 ys hl hy hy1 (by unfold maxLen; omega) hm hbase
  refine wpList_plain hgd fun K hK' => ?_
  unfold Oper.wp execOp
  simp only [ho, resolve, invoke, builtin, Sem.run_bind, Sem.run_pure, Result.andThen_ok, List.map_toArray, List.map_cons, List.map_nil, hs, hx, hrun]
  exact hK' _ _ (h v' w' r1 r2 r3)
end Go.Proofs.YtimblabaeclhpaaGreat
