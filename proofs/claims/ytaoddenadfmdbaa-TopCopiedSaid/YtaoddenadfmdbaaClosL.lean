/- PLAIN LAW: what the search for all positions that are reached without a sign keeps. -/
import Derived.Test.YtaoddenadfmdbaaAccL
import Derived.Test.YtaoddenadfmdbaaSrch
import Derived.Maps.OwnSet
import Derived.Shelf.Sort.Plain
import Derived.Sort.OwnSortedInts
import Derived.Maps.RangeWalk
import Derived.Deep.QuietTactic
import Derived.BigQuiet
import Derived.IntWalk
namespace Go.Proofs.Ytaoddenadfmdbaa
open Go.RowKit Go.Maps
def nzL (S : List Nat) : List Int := S.map fun x : Nat => (x : Int)
theorem nzL_len (S : List Nat) : (nzL S).length = S.length := by unfold nzL; simp
theorem nzL_nth {S : List Nat} {i : Nat} (h : i < S.length) : nth (nzL S) i = (S[i] : Int) := by unfold nth nzL; simp [List.getD, h]
theorem nzL_inj {S T : List Nat} (h : nzL S = nzL T) : S = T := by
  unfold nzL at h
  exact List.map_inj_right (fun a b e => by omega) |>.1 h
/-- May the position's cell be left? -/
def NulB (cs : List Cl) (x : Nat) : Prop := (posAt cs x).1 < cs.length ∧ (cl cs (posAt cs x).1).mn ≤ ((posAt cs x).2 : Int)
def nextP (cs : List Cl) (x : Nat) : Nat := num cs ((posAt cs x).1 + 1) 0
structure CInv (cs : List Cl) (S q K : List Nat) : Prop where
  okq : SetOk cs q
  okk : SetOk cs K
  snd : ∀ y, y ∈ q ∨ y ∈ K → ∀ T, Acc cs (posAt cs y).1 (posAt cs y).2 T → lang cs S T
  has : ∀ x ∈ S, x ∈ q ∨ x ∈ K
  cls : ∀ x ∈ K, NulB cs x → nextP cs x ∈ q ∨ nextP cs x ∈ K
theorem CInv.start {cs : List Cl} {S : List Nat} (h : SetOk cs S) : CInv cs S S [] :=
  { okq := h
    okk := fun x hx => by cases hx
    snd := fun y hy T hT => ⟨y, hy.resolve_right (by simp), hT⟩
    has := fun x hx => .inl hx
    cls := fun x hx => by cases hx }
theorem CInv.skip {cs : List Cl} {S q K : List Nat} {x : Nat} (h : CInv cs S (x :: q) K) (hn : NulB cs x → nextP cs x ∈ x :: K) : CInv cs S q (x :: K) := by
  refine ⟨fun y hy => h.okq y (by simp [hy]), fun y hy => ?_, fun y hy => h.snd y ?_, fun y hy => ?_, fun y hy hN => ?_⟩
  · rcases List.mem_cons.1 hy with rfl | hy
    · exact h.okq y (by simp)
    · exact h.okk y hy
  · rcases hy with hy | hy
    · exact .inl (by simp [hy])
    · rcases List.mem_cons.1 hy with rfl | hy
      · exact .inl (by simp)
      · exact .inr hy
  · rcases h.has y hy with h1 | h1
    · rcases List.mem_cons.1 h1 with rfl | h1
      · exact .inr (by simp)
      · exact .inl h1
    · exact .inr (by simp [h1])
  · rcases List.mem_cons.1 hy with rfl | hy
    · exact .inr (hn hN)
    · rcases h.cls y hy hN with h1 | h1
      · rcases List.mem_cons.1 h1 with h1 | h1
        · exact .inr (by rw [h1]; simp)
        · exact .inl h1
      · exact .inr (by simp [h1])
theorem CInv.push {cs : List Cl} {S q K : List Nat} {x : Nat} (h : CInv cs S (x :: q) K) (hn : NulB cs x) : CInv cs S (q ++ [nextP cs x]) (x :: K) := by
  have hok : PosOk cs ((posAt cs x).1 + 1) 0 := next_ok hn.1
  refine ⟨fun y hy => ?_, fun y hy => ?_, fun y hy T hT => ?_, fun y hy => ?_, fun y hy hN => ?_⟩
  · rcases List.mem_append.1 hy with hy | hy
    · exact h.okq y (by simp [hy])
    · rw [List.mem_singleton] at hy
      rw [hy]
      exact num_lt hok
  · rcases List.mem_cons.1 hy with rfl | hy
    · exact h.okq y (by simp)
    · exact h.okk y hy
  · rcases hy with hy | hy
    · rcases List.mem_append.1 hy with hy | hy
      · exact h.snd y (.inl (by simp [hy])) T hT
      · rw [List.mem_singleton] at hy
        subst hy
        unfold nextP at hT
        rw [posAt_num hok] at hT
        exact h.snd x (.inl (by simp)) T (.eps hn.1 hn.2 hT)
    · rcases List.mem_cons.1 hy with rfl | hy
      · exact h.snd y (.inl (by simp)) T hT
      · exact h.snd y (.inr hy) T hT
  · rcases h.has y hy with h1 | h1
    · rcases List.mem_cons.1 h1 with rfl | h1
      · exact .inr (by simp)
      · exact .inl (by simp [h1])
    · exact .inr (by simp [h1])
  · rcases List.mem_cons.1 hy with rfl | hy
    · exact .inl (by simp)
    · rcases h.cls y hy hN with h1 | h1
      · rcases List.mem_cons.1 h1 with h1 | h1
        · exact .inr (by rw [h1]; simp)
        · exact .inl (by simp [h1])
      · exact .inr (by simp [h1])
theorem CInv.done {cs : List Cl} {S K : List Nat} (h : CInv cs S [] K) : SetOk cs K ∧ Closd cs K ∧ ∀ T, lang cs K T ↔ lang cs S T :=
  ⟨h.okk, fun x hx h1 h2 => (h.cls x hx ⟨h1, h2⟩).resolve_left (by simp), fun T => reach_lang (fun x hx => (h.has x hx).resolve_left (by simp)) (fun y hy T hT => h.snd y (.inr hy) T hT) T⟩
/-- How much is still to be done. -/
def wgt (cs : List Cl) (x : Nat) : Nat := cs.length - (posAt cs x).1 + 1
def meas (cs : List Cl) (q : List Nat) : Nat := (q.map (wgt cs)).sum
theorem meas_cons (cs : List Cl) (x : Nat) (q : List Nat) : meas cs (x :: q) = wgt cs x + meas cs q := by unfold meas; simp
theorem meas_push {cs : List Cl} {x : Nat} (hn : NulB cs x) (q : List Nat) : meas cs (q ++ [nextP cs x]) + 1 = wgt cs x + meas cs q := by
  have e : meas cs (q ++ [nextP cs x]) = meas cs q + wgt cs (nextP cs x) := by unfold meas; rw [List.map_append, List.sum_append]; rfl
  have e2 : wgt cs (nextP cs x) = cs.length - ((posAt cs x).1 + 1) + 1 := by unfold wgt nextP; rw [posAt_num (next_ok hn.1)]
  have := hn.1
  rw [e, e2]
  unfold wgt
  omega
theorem meas_len (cs : List Cl) (q : List Nat) : q.length ≤ meas cs q := by
  unfold meas
  induction q with
  | nil => simp
  | cons x q ih => rw [List.length_cons, List.map_cons, List.sum_cons]; unfold wgt at *; omega
theorem meas_le (cs : List Cl) (q : List Nat) : meas cs q ≤ q.length * (cs.length + 1) := by
  unfold meas
  induction q with
  | nil => simp
  | cons x q ih => rw [List.length_cons, List.map_cons, List.sum_cons, Nat.add_mul, Nat.one_mul]; unfold wgt at *; omega
/-- What a queue holds, read off the world: for the loop's measure. -/
theorem Qu.det {W : World} {K : Nat} {v : Value} {q q' : List Int} (h : Qu W K v q) (h' : Qu W K v q') : q = q' := by
  obtain ⟨g, o, c, rfl, h1, h2, h3, cur, h4, h5, h6⟩ := h
  obtain ⟨g', o', c', e, h1', h2', h3', cur', h4', h5', h6'⟩ := h'
  injection e with e1 e2 e3
  injection e1 with e1
  injection e1 with e1 e4
  subst e1 e4
  rw [h4] at h4'
  injection h4' with h4'
  injection h4' with h4'
  subst h4'
  refine List.ext_getElem e2 fun j hj hj' => ?_
  have a := h6 j hj
  have b := h6' j hj'
  rw [a] at b
  injection b with b
  injection b with _ b
  have e5 : nth q j = q[j] := by unfold nth; simp [hj]
  have e6 : nth q' j = q'[j] := by unfold nth; simp [hj']
  rw [← e5, ← e6, b]
open Classical in
noncomputable def qMeas (cs : List Cl) (K : Nat) (v : Value) (W : World) : Nat := if h : ∃ q : List Nat, Qu W K v (nzL q) then meas cs h.choose else 0
theorem qMeas_eq {cs : List Cl} {K : Nat} {v : Value} {W : World} {q : List Nat} (h : Qu W K v (nzL q)) : qMeas cs K v W = meas cs q := by
  unfold qMeas
  have hx : ∃ q : List Nat, Qu W K v (nzL q) := ⟨q, h⟩
  rw [dif_pos hx]
  rw [nzL_inj (hx.choose_spec.det h)]
/-- What the map of the seen positions holds. -/
structure SeenM (K : List Nat) (D : DataW Unit) : Prop where
  map : Maps.IsMap D
  at_ : ∀ x : Nat, D.atKey (.int .i64 (x : Int)) (.lit (.int .i64 0)) = .lit (.int .i64 (if x ∈ K then 1 else 0))
  has : ∀ x : Int, Maps.has D (.int .i64 x) = true ↔ ∃ k ∈ K, (k : Int) = x
theorem SeenM.nil : SeenM [] (.map []) := ⟨⟨_, rfl⟩, fun x => by simp; rfl, fun x => by simp [Maps.has]⟩
theorem SeenM.add {K : List Nat} {D : DataW Unit} (h : SeenM K D) (x : Nat) : SeenM (x :: K) (D.put (.int .i64 (x : Int)) (.lit (.int .i64 1))) := by
  refine ⟨?_, fun y => ?_, fun y => ?_⟩
  · obtain ⟨es, rfl⟩ := h.map
    exact ⟨_, rfl⟩
  · by_cases e : y = x
    · subst e
      rw [atKey_put_same h.map (by trivial)]
      simp
    · rw [atKey_put_other (by intro h2; injection h2 with _ h2; omega), h.at_]
      simp [e]
  · by_cases e : y = (x : Int)
    · subst e
      rw [has_put_same h.map (by trivial)]
      simp
    · rw [has_put_other (by intro h2; injection h2 with _ h2; exact e h2), h.has]
      constructor
      · rintro ⟨k, hk, e2⟩
        exact ⟨k, by simp [hk], e2⟩
      · rintro ⟨k, hk, e2⟩
        rcases List.mem_cons.1 hk with rfl | hk
        · exact absurd e2.symm e
        · exact ⟨k, hk, e2⟩
/-- The collected keys: those that are no longer to come. -/
def Colx (D : DataW Unit) (left : Lit → Bool) (out : List Int) : Prop := ∀ x : Int, x ∈ out ↔ (Maps.has D (.int .i64 x) = true ∧ left (.int .i64 x) = false)
theorem Colx.start (D : DataW Unit) : Colx D (Maps.has D) [] := fun x => by
  constructor
  · intro h; cases h
  · rintro ⟨h1, h2⟩; rw [h1] at h2; cases h2
theorem Colx.step {D : DataW Unit} {left : Lit → Bool} {out : List Int} (h : Colx D left out) {x : Int} (hx : left (.int .i64 x) = true) (hh : Maps.has D (.int .i64 x) = true) : Colx D (fun z => left z && !z.sameKey (.int .i64 x)) (out ++ [x]) := fun y => by
  have e : (Lit.int .i64 y).sameKey (.int .i64 x) = decide (y = x) := by simp [Lit.sameKey]
  show y ∈ out ++ [x] ↔ (Maps.has D (.int .i64 y) = true ∧ (left (.int .i64 y) && !(Lit.int .i64 y).sameKey (.int .i64 x)) = false)
  rw [List.mem_append, List.mem_singleton, h y, e]
  by_cases hyx : y = x
  · subst hyx
    simp [hx, hh]
  · simp [hyx]
end Go.Proofs.Ytaoddenadfmdbaa

/- BASE: slices.Sort at numbers: what was sorted has the same elements (printed by gen_sortl.py). -/
namespace Go.Proofs.Ytaoddenadfmdbaa
open Go.RowKit Go.Shelf Go.Sort
/-- The numbers of the sort's types and functions here. -/
def Try.lSo_ren : Go.Shelf.Ren := ⟨fun | 125 => 69 | 128 => 87 | 129 => 88 | 189 => 54 | 215 => 96 | 216 => 84 | 257 => 68 | 294 => 78 | 295 => 79 | 296 => 80 | 297 => 81 | 298 => 82 | 299 => 83 | 300 => 85 | 301 => 86 | 328 => 91 | 329 => 92 | 330 => 93 | 331 => 94 | 332 => 95 | 343 => 97 | n => n, fun | 0 => 0 | 3 => 3 | 4 => 4 | 5 => 5 | 9 => 9 | 28 => 26 | 46 => 121 | 51 => 141 | 53 => 143 | 131 => 138 | 182 => 132 | 183 => 133 | 218 => 148 | 222 => 152 | 228 => 154 | 229 => 155 | n => n, fun | n => n⟩
theorem Try.lSo : Lays.n189 Try.prog Try.lSo_ren where
  mixed := by kernel_rfl
  f125 := Try.func69.trans (congrArg some (by kernel_rfl))
  f128 := Try.func87.trans (congrArg some (by kernel_rfl))
  f129 := Try.func88.trans (congrArg some (by kernel_rfl))
  f189 := Try.func54.trans (congrArg some (by kernel_rfl))
  f215 := Try.func96.trans (congrArg some (by kernel_rfl))
  f216 := Try.func84.trans (congrArg some (by kernel_rfl))
  f257 := Try.func68.trans (congrArg some (by kernel_rfl))
  f294 := Try.func78.trans (congrArg some (by kernel_rfl))
  f295 := Try.func79.trans (congrArg some (by kernel_rfl))
  f296 := Try.func80.trans (congrArg some (by kernel_rfl))
  f297 := Try.func81.trans (congrArg some (by kernel_rfl))
  f298 := Try.func82.trans (congrArg some (by kernel_rfl))
  f299 := Try.func83.trans (congrArg some (by kernel_rfl))
  f300 := Try.func85.trans (congrArg some (by kernel_rfl))
  f301 := Try.func86.trans (congrArg some (by kernel_rfl))
  f328 := Try.func91.trans (congrArg some (by kernel_rfl))
  f329 := Try.func92.trans (congrArg some (by kernel_rfl))
  f330 := Try.func93.trans (congrArg some (by kernel_rfl))
  f331 := Try.func94.trans (congrArg some (by kernel_rfl))
  f332 := Try.func95.trans (congrArg some (by kernel_rfl))
  f343 := Try.func97.trans (congrArg some (by kernel_rfl))
  t0 := Try.underlying0
  a0 := Try.isAgg0
  z0 := Try.sizeOf0
  v0 := Try.zeroValue0
  t3 := Try.underlying3
  a3 := Try.isAgg3
  z3 := Try.sizeOf3
  v3 := Try.zeroValue3
  t4 := Try.underlying4
  a4 := Try.isAgg4
  z4 := Try.sizeOf4
  v4 := Try.zeroValue4
  t5 := Try.underlying5
  a5 := Try.isAgg5
  z5 := Try.sizeOf5
  v5 := Try.zeroValue5
  t9 := Try.underlying9
  a9 := Try.isAgg9
  z9 := Try.sizeOf9
  v9 := Try.zeroValue9
  t28 := Try.underlying26
  a28 := Try.isAgg26
  z28 := Try.sizeOf26
  v28 := Try.zeroValue26
  t46 := Try.underlying121
  a46 := Try.isAgg121
  z46 := Try.sizeOf121
  v46 := Try.zeroValue121
  t51 := Try.underlying141
  a51 := Try.isAgg141
  z51 := Try.sizeOf141
  v51 := Try.zeroValue141
  t53 := Try.underlying143
  a53 := Try.isAgg143
  z53 := Try.sizeOf143
  v53 := Try.zeroValue143
  t131 := Try.underlying138
  a131 := Try.isAgg138
  z131 := Try.sizeOf138
  v131 := Try.zeroValue138
  t182 := Try.underlying132
  a182 := Try.isAgg132
  z182 := Try.sizeOf132
  v182 := Try.zeroValue132
  t183 := Try.underlying133
  a183 := Try.isAgg133
  z183 := Try.sizeOf133
  v183 := Try.zeroValue133
  t218 := Try.underlying148
  a218 := Try.isAgg148
  z218 := Try.sizeOf148
  v218 := Try.zeroValue148
  t222 := Try.underlying152
  a222 := Try.isAgg152
  z222 := Try.sizeOf152
  v222 := Try.zeroValue152
  t228 := Try.underlying154
  a228 := Try.isAgg154
  z228 := Try.sizeOf154
  v228 := Try.zeroValue154
  t229 := Try.underlying155
  a229 := Try.isAgg155
  z229 := Try.sizeOf155
  v229 := Try.zeroValue155
theorem sortI_any (l : List Int) (B : Nat) (A : Option Addr) (c : Nat) (w : World) (hl : 0 < l.length) (h63 : l.length ≤ 1000000) (h : w.ownsRow B 3 1 (.slice A l.length c) l.length (ints l)) :
    Calls Try.prog 54 #[.slice A l.length c] w fun e w' => e = .returned (.tuple #[]) ∧ ∃ l' : List Int, l'.Perm l ∧ w'.ownsRow B 3 1 (.slice A l.length c) l.length (ints l') ∧ w.grownBy w' (Value.slice A l.length c).ownBlock := by
  rcases h.2 with ⟨_, h2⟩ | ⟨g, cap, cur, hv, hb, hh, h1, h2, h3, h4⟩
  · omega
  · injection hv with e1 e2 e3
    subst e1 e3
    have hH : Holds (Value.int .i64) w g 0 l.toArray := holds_of_blockI hh (by rw [Nat.mul_one] at h4; exact h4)
    have hc := Any.slices_Sort_int Try.lSo g 0 c l w hH (lt_of_block hh) (by omega)
    change Calls Try.prog 54 _ _ _ at hc
    refine hc.mono ?_
    rintro e w' ⟨rfl, n, os, rfl⟩
    refine ⟨rfl, l.mergeSort fun x y => decide (x ≤ y), List.mergeSort_perm _ _, ?_, grownBy_sortedI _⟩
    exact ownsRow_sortedI (List.length_mergeSort _) hb hh h1 h2 h3
end Go.Proofs.Ytaoddenadfmdbaa

/- WALK: closed: what is reached without a sign. -/
namespace Go.Proofs.Ytaoddenadfmdbaa
open Go.RowKit Go.Maps
theorem lawI : Keyed Try.prog 3 := int_keyed Try.underlying3
theorem Qu.pop' {W : World} {K n : Nat} {A : Option Addr} {c : Nat} {x : Int} {q : List Int} (h : Qu W K (.slice A n c) (x :: q)) : ∃ g o, A = some ⟨g, o, none⟩ ∧ n = q.length + 1 ∧ n ≤ c ∧ K ≤ g ∧ g < W.heap.size ∧ W.cell? ⟨g, o, none⟩ = some (.int .i64 x) ∧ Qu W K (.slice (some (if c = 1 then ⟨g, o, none⟩ else ⟨g, o + 1, none⟩)) (n - 1) (c - 1)) q := by
  obtain ⟨g, o, c', e, h1, h2, h3⟩ := h.form
  injection e with e1 e2 e3
  subst e1 e2 e3
  obtain ⟨h4, h5, _, h6⟩ := h.pop
  exact ⟨g, o, rfl, by simp [h4], h1, h2, h3, h5, h6⟩
theorem posTo_long (cs : List Cl) : ∀ j, j ≤ (posTo cs j).length
  | 0 => Nat.zero_le _
  | j + 1 => by rw [posTo_len_s]; have := posTo_long cs j; omega
theorem ownsMap_at {w W : World} {mb n : Nat} {D : DataW Unit} (h : w.ownsMap Try.prog 3 (plainElem (H := Unit) Try.prog 3) mb n D) (hW : W.heap[mb]? = w.heap[mb]?) : W.ownsMap Try.prog 3 (plainElem (H := Unit) Try.prog 3) mb n D := by
  obtain ⟨es, clock, hb, r⟩ := h
  exact ⟨es, clock, hW.trans hb, r⟩
set_option maxRecDepth 100000 in
/-- What a look into the map of seen positions gives. -/
theorem look_seen {w : World} {mb n : Nat} {Kn : List Nat} {D : DataW Unit} (h : w.ownsMap Try.prog 3 (plainElem (H := Unit) Try.prog 3) mb n D) (hs : SeenM Kn D) {x : Nat} (hx : x ≤ 1000000) (W : World) (hW : W.heap[mb]? = w.heap[mb]?) :
    (Instr.lookup 111 (.map (some mb)) (.int .i64 (x : Int)) false).run Try.prog W = .ok (.int .i64 (if x ∈ Kn then 1 else 0)) W := by
  have hown : W.ownsMap Try.prog 3 (plainElem (H := Unit) Try.prog 3) mb n D := by
    obtain ⟨es, clock, hb, r⟩ := h
    exact ⟨es, clock, hW.trans hb, r⟩
  obtain ⟨c, hrun, hat, _⟩ := hown.lookup_int (t := 111) lawI Try.underlying111 Try.underlying3 (zeroI' W) (keyOf_int_mk Try.underlying3 (lit64 hx))
  rw [hs.at_] at hat
  injection hat with hat
  injection hat with _ hat
  rw [hat]
  exact hrun
theorem fin_set {Kn : List Nat} {out l' : List Int} (hp : l'.Perm out) (hn : out.Nodup) (hx : ∀ x : Int, x ∈ out ↔ ∃ k ∈ Kn, (k : Int) = x) : ∃ S' : List Nat, nzL S' = l' ∧ S'.Nodup ∧ ∀ x, x ∈ S' ↔ x ∈ Kn := by
  have hm : ∀ x : Int, x ∈ l' ↔ ∃ k ∈ Kn, (k : Int) = x := fun x => by rw [hp.mem_iff]; exact hx x
  have e : nzL (l'.map Int.toNat) = l' := by
    unfold nzL
    rw [List.map_map]
    conv => rhs; rw [← List.map_id l']
    refine List.map_congr_left fun x h => ?_
    obtain ⟨k, _, rfl⟩ := (hm x).1 h
    simp
  refine ⟨l'.map Int.toNat, e, ?_, fun x => ?_⟩
  · have h2 : (nzL (l'.map Int.toNat)).Nodup := by rw [e]; exact hp.symm.nodup hn
    unfold nzL at h2
    exact List.Pairwise.imp (fun h3 h4 => h3 (by rw [h4])) (List.pairwise_map.1 h2)
  · rw [List.mem_map]
    constructor
    · rintro ⟨z, hz, rfl⟩
      obtain ⟨k, hk, rfl⟩ := (hm z).1 hz
      simpa using hk
    · intro h
      exact ⟨(x : Int), (hm _).2 ⟨x, h, rfl⟩, by simp⟩
theorem SetOk.same {cs : List Cl} {S T : List Nat} (h : SetOk cs S) (e : ∀ x, x ∈ T ↔ x ∈ S) : SetOk cs T := fun x hx => h x ((e x).1 hx)
theorem Closd.same {cs : List Cl} {S T : List Nat} (h : Closd cs S) (e : ∀ x, x ∈ T ↔ x ∈ S) : Closd cs T := fun x hx h1 h2 => (e _).2 (h x ((e x).1 hx) h1 h2)
theorem lang_same {cs : List Cl} {S T : List Nat} (e : ∀ x, x ∈ T ↔ x ∈ S) (U : List Int) : lang cs T U ↔ lang cs S U :=
  ⟨fun ⟨x, hx, h⟩ => ⟨x, (e x).1 hx, h⟩, fun ⟨x, hx, h⟩ => ⟨x, (e x).2 hx, h⟩⟩
theorem own_lower {w : World} {b b' : Nat} {v : Value} {e : TypeId} {size n : Nat} {xs : List Value} (h : w.ownsRow b e size v n xs) (hb : b' ≤ b) : w.ownsRow b' e size v n xs := by
  obtain ⟨h1, h2⟩ := h
  refine ⟨h1, ?_⟩
  rcases h2 with h2 | ⟨g, cap, cur, hv, hg, r⟩
  · exact Or.inl h2
  · exact Or.inr ⟨g, cap, cur, hv, Nat.le_trans hb hg, r⟩
set_option maxRecDepth 100000 in
set_option maxHeartbeats 4000000 in
theorem closed_any {cs : List Cl} {par : List Int} {n B : Nat} {A2 A3 : Option Addr} {c2 c3 gq cq : Nat} {D : DataW Unit} {K : Nat} {rv : Value} (hnp : (posL cs).length ≤ 100000) (hv : ∀ c ∈ cs, ClOk n c) (S : List Nat) (hS : SetOk cs S) (hne : S ≠ []) (hm : meas cs S ≤ 100000) (v : Value) (w : World) (hq : Qu w K v (nzL S)) (h : Sx cs par n B A2 A3 c2 c3 gq cq D K rv w) :
    Calls Try.prog 38 #[.pointer (some ⟨B + 1, 0, none⟩), v] w fun e w' => ∃ (S' : List Nat) (A' : Option Addr) (c' : Nat), e = .returned (.slice A' S'.length c') ∧ S' ≠ [] ∧ SetOk cs S' ∧ S'.Nodup ∧ Closd cs S' ∧ (∀ T, lang cs S' T ↔ lang cs S T) ∧ w'.ownsRow w.heap.size 3 1 (.slice A' S'.length c') S'.length (ints (nzL S')) ∧ Below K w w' := by
  have hmm := @run_makeMap Try.prog
  obtain ⟨g0, o0, cc0, rfl, _, hg0, hgl0⟩ := hq.form
  have HQ := hid hq; have H := hid h; have HS := hid hS; have HNE := hid hne; have HV := hid hv
  have hkw := h.kw
  clear hq h hS hne hv
  go_enter Try.func38, Try.ntmps38
  go_wp2_with fail
  obtain ⟨mb, hmb⟩ : ∃ b, b = w.heap.size := ⟨_, rfl⟩
  rw [← hmb] at hgl0 hkw
  rw [← hmb]
  have HMB := hid hmb
  clear hmb
  go_loopw [1] (fun v1 wr => ∃ (q Kn : List Nat) (D2 : DataW Unit) (r : Nat), Hid (Qu wr K v1 (nzL q)) ∧ Hid (CInv cs S q Kn) ∧ Hid (SeenM Kn D2) ∧ Hid (wr.ownsMap Try.prog 3 (plainElem (H := Unit) Try.prog 3) mb r D2) ∧ r + meas cs q ≤ 100000 ∧ Hid (Below K w wr) ∧ mb < wr.heap.size ∧ v1.ownBlock ≠ some mb) (fun v1 wr => qMeas cs K v1 wr)
  case atStart =>
    refine ⟨S, [], .map [], 0, hid (HQ.out.below ((Below.refl _ _).alloc (Nat.le_refl _) _)), hid (.start HS.out), hid .nil, hid ?_, by omega, hid ((Below.refl _ _).alloc (by have := HMB.out; omega) _), by have := HMB.out; simp; omega, ?_⟩
    · rw [HMB.out]
      exact World.ownsMap_made _ _ _ _
    · intro e
      have e2 : g0 = mb := by injection e
      omega
  case round =>
    obtain ⟨q, Kn, D2, r, hQ, hI, hM, hO, hR, hB, hsz, hob⟩ := hrel
    have HX := hid (H.out.keep hB.out)
    cases q with
    | nil =>
      obtain ⟨g1, o1, cc1, rfl, _, _, _⟩ := hQ.out.form
      rw [show (nzL ([] : List Nat)).length = 0 from rfl]
      obtain ⟨hK1, hK2, hK3⟩ := hI.out.done
      have hKne : Kn ≠ [] := fun e => by
        obtain ⟨x, hx⟩ := List.exists_mem_of_ne_nil _ HNE.out
        have := hI.out.has x hx
        rw [e] at this
        simp at this
      have HK1 := hid hK1; have HK2 := hid hK2; have HK3 := hid hK3; have HKN := hid hKne
      have hrs : Maps.size D2 ≤ 100000 := by have := hO.out.size_le; omega
      have e0 : decide ((0 : Int) < (0 : Int)) = false := by decide
      have HMD := hid hM.out.has
      have HWR := hid hB.out
      clear hK1 hK2 hK3 hKne hQ hI hM hB hob hR
      go_wp2_with (first
        | (at_range; refine wpList_range_own _ rfl _ 111 rfl 3 3 lawI Try.underlying111 _ mb r _ rfl hO.out ?_; intro w0 hrg0 hg0 hs0; have HRG := hid hrg0; have HG0 := hid hg0; have HS0 := hid hs0; clear hrg0 hg0 hs0)
        | go_in)
      go_frame
      obtain ⟨rb, hrb⟩ : ∃ b, b = wr.heap.size := ⟨_, rfl⟩
      rw [← hrb] at HRG HS0 ⊢
      have HRB := hid hrb
      rw [← hrb] at hsz
      clear hrb
      have HB0 := hid (show Below K w w0 from HWR.out.grown HG0.out (by have := HRB.out; omega) (fun j hj => by cases hj))
      go_loopw [9] (fun v9 wr2 => ∃ (left : Lit → Bool) (cnt : Nat) (out : List Int), Hid (wr2.ranges Try.prog 3 (plainElem (H := Unit) Try.prog 3) mb rb r D2 left cnt) ∧ Hid (Colx D2 left out) ∧ Hid out.Nodup ∧ Hid (wr2.ownsRow (rb + 1) 3 1 v9 out.length (ints out)) ∧ out.length + cnt ≤ 100000 ∧ Hid (Below K w wr2) ∧ rb + 1 ≤ wr2.heap.size) (fun v9 wr2 => wr2.rangeLeft mb rb)
      case atStart =>
        refine ⟨_, _, [], HRG, hid (.start D2), hid List.nodup_nil, hid ?_, by simpa using hrs, hid HB0.out, by have := HS0.out; omega⟩
        exact World.ownsRow_nil _ _ _ _
      case round =>
        obtain ⟨left, cnt, out, hR, hC, hN, hW, hL, hBB, hZ⟩ := hrel
        go_wp2_with (first
          | (at_next; refine wpList_next_ranges_ii _ rfl _ rfl 3 3 .i64 .i64 lawI Try.underlying3 Try.underlying3 mb rb r _ _ _ rfl hR.out ?_ ?_)
          | go_in)
        · intro hc0 hl0
          have hmem : ∀ x : Int, x ∈ out ↔ ∃ k ∈ Kn, (k : Int) = x := fun x => by
            rw [hC.out x, hl0]
            simpa using HMD.out x
          have hone : out ≠ [] := by
            obtain ⟨x, hx⟩ := List.exists_mem_of_ne_nil _ HKN.out
            intro e
            have := (hmem (x : Int)).2 ⟨x, hx, rfl⟩
            rw [e] at this
            cases this
          obtain ⟨A9, c9, rfl⟩ := own_slice hW.out
          have HOL := hid (show 0 < out.length from List.length_pos_iff.2 hone)
          have HMEM := hid hmem
          have HSR := hid (sortI_any out (rb + 1) A9 c9 wr HOL.out (by omega) hW.out)
          obtain ⟨m, hm9⟩ : ∃ m, m = out.length := ⟨_, rfl⟩
          rw [← hm9] at hW HSR ⊢
          have HM9 := hid hm9
          clear hmem hone hc0 hl0 hR hC hm9
          go_wp2_with (first
            | (go_at_call 54; refine HSR.out.mono ?_; rintro e w7 ⟨rfl, l', hp7, ho7, hg7⟩; have HP7 := hid hp7; have HO7 := hid ho7; have HG7 := hid hg7; clear hp7 ho7 hg7)
            | go_in)
          go_ret
          obtain ⟨S', e7, hnd, hsm⟩ := fin_set HP7.out hN.out HMEM.out
          have hlen : S'.length = out.length := by rw [← nzL_len, e7]; exact HP7.out.length_eq
          have hb7 : Below K wr w7 := (Below.refl K wr).grown HG7.out (by have := HRB.out; omega) (fun j hj => by have := (hW.out.lt j hj).1; have := HRB.out; omega)
          refine ⟨S', A9, c9, by rw [hlen, HM9.out]; rfl, fun e => ?_, HK1.out.same hsm, hnd, HK2.out.same hsm, fun T => (lang_same hsm T).trans (HK3.out T), ?_, hBB.out.trans hb7⟩
          · have := HOL.out
            rw [e] at hlen
            simp at hlen
            omega
          · rw [e7, hlen]
            have h7 := HO7.out
            rw [HM9.out] at h7
            refine own_lower h7 ?_
            have := HRB.out
            have := HMB.out
            omega
        · intro x c w1 cnt1 hwx hwc hlx hat hrg1 hlt hg1 hs1 hen
          have hb1 : Below K wr w1 := (Below.refl K wr).grown hg1 (by have := HRB.out; omega) (fun j hj => by cases hj; have := HRB.out; omega)
          have hw1 : w1.ownsRow (rb + 1) 3 1 u9 out.length (ints out) := hW.out.kept hg1 (by
            cases e : u9.ownBlock with
            | none => exact .inl rfl
            | some g => exact .inr (by intro e2; injection e2 with e2; have := (hW.out.lt g e).1; omega))
          have hcs := hC.out.step hlx (Maps.has_true_of_atKey hat)
          have hnx : x ∉ out := fun h => by
            have := ((hC.out x).1 h).2
            rw [hlx] at this
            cases this
          have HW1 := hid hw1; have HBB1 := hid (hBB.out.trans hb1); have HC1 := hid hcs; have HN1 := hid (show (out ++ [x]).Nodup from by
            rw [List.nodup_append]
            exact ⟨hN.out, by simp, fun a ha b hb => by rw [List.mem_singleton] at hb; rw [hb]; intro e; exact hnx (by rw [← e]; exact ha)⟩)
          have HR1 := hid hrg1
          have HLT := hid (show wr.rangeLeft mb rb = cnt from hR.out.left_eq)
          have hz1 : rb + 1 ≤ w1.heap.size := by omega
          clear hs1
          obtain ⟨m, hm9⟩ : ∃ m, m = out.length := ⟨_, rfl⟩
          rw [← hm9] at HW1 hL
          have HM9 := hid hm9
          clear hat hrg1 hg1 hb1 hw1 hcs hnx hwx hwc hlx hR hC hN hW hBB hm9
          go_wp2_with (first
            | (at_builtin; go_loud (refine app_elem rfl (.tmp 74) (.tmp 76) Try.underlying26 Try.infoInt rfl (by decide) (by decide) rfl (rb + 1) _ m (ints out) rfl (HW1.out.alloc _) ⟨w1.heap.size, 0, none⟩ [.int .i64 x] rfl rfl (cell_news w1 [.int .i64 x] _) (by simp [Value.oneCell']) (by omega) (by simp; omega) ?_); intro v5 w5 ho5 hg5; have HO5 := hid ho5; have HG5 := hid hg5; clear ho5 hg5)
            | go_in)
          have hg5 := HG5.out
          have hA : Below w1.heap.size w1 (w1.alloc (.cells #[.int .i64 x] 3)) := (Below.refl _ _).alloc (Nat.le_refl _) _
          have hkb : ∀ j, u9.ownBlock = some j → rb + 1 ≤ j := fun j hj => (HW1.out.lt j hj).1
          have hb5 : Below (rb + 1) w1 w5 := (hA.mono hz1).grown hg5 (by simp; omega) hkb
          have hr5 : w5.ranges Try.prog 3 (plainElem (H := Unit) Try.prog 3) mb rb r D2 _ cnt1 := (HR1.out.kept (grown_of_below hA) (by simp) (by simp)).kept hg5 (fun e => by have := hkb _ e.symm; omega) (fun e => by have := hkb _ e.symm; omega)
          go_roundw
          case rel =>
            refine ⟨_, cnt1, out ++ [x], hid hr5, HC1, HN1, hid ?_, by rw [List.length_append, List.length_singleton, ← HM9.out]; omega, hid (HBB1.out.trans (hb5.mono (by have := HRB.out; omega))), Nat.le_trans hz1 hb5.size⟩
            have e := HO5.out
            rw [List.length_append, List.length_singleton, ← HM9.out, show ints (out ++ [x]) = ints out ++ [.int .i64 x] by simp [ints]]
            exact e
          case measure => rw [hr5.left_eq, HLT.out]; exact hlt
    | cons x q =>
      obtain ⟨g1, o1, cc1, rfl, _, _, _⟩ := hQ.out.form
      obtain ⟨g, o, eA, hlen, hlc, hKg, hgw, hc0, hq1⟩ := hQ.out.pop'
      injection eA with eA
      injection eA with eA eB
      subst eA eB
      have HM0 := hid (qMeas_eq (cs := cs) hQ.out)
      have hx : x < (posL cs).length := hI.out.okq x (by simp)
      have hpx := posAt_ok hx
      have HPX := hid hpx; have HLX := hid hx
      have hb1 : g1 ≠ mb := fun e => hob (by rw [e]; rfl)
      generalize hN : (nzL (x :: q)).length = N at hlen hlc hq1 HM0 ⊢
      obtain ⟨A1, hA1⟩ : ∃ A1, A1 = if cc1 = 1 then some (⟨g1, o1, none⟩ : Addr) else some ⟨g1, o1 + 1, none⟩ := ⟨_, rfl⟩
      have hq2 : Qu wr K (.slice A1 (N - 1) (cc1 - 1)) (nzL q) := by
        rw [hA1]
        by_cases hc : cc1 = 1
        · rw [if_pos hc] at hq1 ⊢; exact hq1
        · rw [if_neg hc] at hq1 ⊢; exact hq1
      have hA1b : A1.map (fun a : Addr => a.block) = some g1 := by
        rw [hA1]
        by_cases hc : cc1 = 1
        · rw [if_pos hc]; rfl
        · rw [if_neg hc]; rfl
      have HQ1 := hid hq2; have HA1 := hid hA1; have HA1B := hid hA1b
      have hN1 : 1 ≤ N := by omega
      have e1 : decide ((0 : Int) < (N : Int)) = true := decide_eq_true (by omega)
      clear hq1 hq2 hob hN hpx hx hA1 hA1b hlen
      go_upto_region 5 with (fail)
      rw [← HA1.out]
      have hlx : x ≤ 1000000 := by have := HLX.out; omega
      have hr1 : r < maxLen := by unfold maxLen; omega
      have HWFX := hid (lit64 hlx)
      go_upto_region 6 with (first | (at_mapUpdate; refine wpList_mapUpdate_own _ rfl _ _ _ 111 rfl 3 3 lawI Try.underlying111 _ mb r _ rfl hO.out hr1 _ _ _ rfl rfl (keyOf_int_mk Try.underlying3 HWFX.out) _ [] (plainElem_int Try.underlying3 (by decide)) ?_; intro w5 hown5 hgrow5; have HO5 := hid hown5; have HG5 := hid hgrow5; clear hown5 hgrow5))
      simp only [Act.put]
      have hB5 : Below K wr w5 := (Below.refl K wr).grown HG5.out (by have := hB.out.size; omega) (fun j hj => by cases hj; exact hkw)
      have HX5 := hid (HX.out.keep hB5)
      have HQ5 := hid (HQ1.out.keep (W' := w5) fun g e _ => HG5.out.block g ((HQ1.out.lt g e).2) (by
        intro e3
        injection e3 with e3
        have e4 := HA1B.out
        cases A1 with
        | none => cases e
        | some a =>
          have e5 : a.block = g := by injection e
          have e6 : a.block = g1 := by injection e4
          omega))
      have HB5 := hid (hB.out.trans hB5)
      have hs5 : mb < w5.heap.size := Nat.lt_of_lt_of_le hsz HG5.out.size
      have HM5 := hid (hM.out.add x)
      clear hB5
      have pc3 := HX5.out.s.cells.c3; have pc1 := HX5.out.s.cells.c1; have pc4 := HX5.out.s.cells.c4
      obtain ⟨pp1, pp2⟩ := HX5.out.ps x HLX.out
      obtain ⟨np, hnpe⟩ : ∃ np, np = (posL cs).length := ⟨_, rfl⟩
      have q1 : (x : Int) < (np : Int) := by rw [hnpe]; exact Int.ofNat_lt.2 HLX.out
      rw [← hnpe] at pc3
      obtain ⟨i, hi⟩ : ∃ i, i = (posAt cs x).1 := ⟨_, rfl⟩
      obtain ⟨k, hk⟩ : ∃ k, k = (posAt cs x).2 := ⟨_, rfl⟩
      rw [← hi] at pp1; rw [← hk] at pp2
      have HI := hid hi; have HK := hid hk
      clear hi hk hnpe
      go_upto_region 7 with (fail)
      obtain ⟨w6, hw6⟩ : ∃ W, W = w5.alloc (.cells #[.int .i64 (i : Int), .int .i64 (k : Int)] 98) := ⟨_, rfl⟩
      have hb56 : Below w5.heap.size w5 w6 := by rw [hw6]; exact (Below.refl _ _).alloc (Nat.le_refl _) _
      rw [← hw6]
      have hs6 : w5.heap.size < w6.heap.size := by rw [hw6]; simp
      have HS6 := hid hs6
      have d0 : w6.cell? ⟨w5.heap.size, 0, none⟩ = some (.int .i64 (i : Int)) := by rw [hw6]; exact cell_here rfl rfl
      have d1 : w6.cell? ⟨w5.heap.size, 1, none⟩ = some (.int .i64 (k : Int)) := by rw [hw6]; exact cell_here rfl rfl
      have HX6 := hid (HX5.out.below hb56)
      have HQ6 := hid (HQ5.out.below hb56)
      have HO6 := hid (ownsMap_at HO5.out (hb56.block mb hs5))
      have HB6 := hid (HB5.out.trans (hb56.mono (Nat.le_trans HX5.out.kw (Nat.le_refl _))))
      have hZ6 : mb < w6.heap.size := Nat.lt_trans hs5 hs6
      have hobA : (Value.slice A1 (N - 1) (cc1 - 1)).ownBlock ≠ some mb := by
        intro e
        have e4 := HA1B.out
        cases A1 with
        | none => cases e
        | some a =>
          have e5 : a.block = mb := by injection e
          have e6 : a.block = g1 := by injection e4
          omega
      have HOB := hid hobA
      have pc1 := HX6.out.s.cells.c1; have pc4 := HX6.out.s.cells.c4
      replace hR := hid hR
      have hR2 : r + 1 + meas cs q ≤ 100000 := by have hR := hR.out; rw [meas_cons] at hR; unfold wgt at hR; omega
      have HMQ := hid (fun W hW => qMeas_eq (cs := cs) (HQ6.out.below (W' := W) hW))
      have HML := hid (show meas cs q < meas cs (x :: q) by rw [meas_cons]; unfold wgt; omega)
      clear hw6 HX5 HQ5 HO5 HG5 hs5 hb56 pp1 pp2 pc3 hs6 hobA
      have hskip : (NulB cs x → nextP cs x ∈ x :: Kn) → ∀ W, Below w6.heap.size w6 W → ∃ (q2 Kn2 : List Nat) (D3 : DataW Unit) (r2 : Nat), Hid (Qu W K (.slice A1 (N - 1) (cc1 - 1)) (nzL q2)) ∧ Hid (CInv cs S q2 Kn2) ∧ Hid (SeenM Kn2 D3) ∧ Hid (W.ownsMap Try.prog 3 (plainElem (H := Unit) Try.prog 3) mb r2 D3) ∧ r2 + meas cs q2 ≤ 100000 ∧ Hid (Below K w W) ∧ mb < W.heap.size ∧ (Value.slice A1 (N - 1) (cc1 - 1)).ownBlock ≠ some mb := fun hn W hW =>
        ⟨q, x :: Kn, _, r + 1, hid (HQ6.out.below hW), hid (hI.out.skip hn), hid HM5.out, hid (ownsMap_at HO6.out (hW.block mb hZ6)), hR2, hid (HB6.out.trans (hW.mono HX6.out.kw)), Nat.lt_of_lt_of_le hZ6 hW.size, HOB.out⟩
      have HSK := hid hskip
      have HNU := hid (show NulB cs x ↔ (i < cs.length ∧ (cl cs i).mn ≤ (k : Int)) by rw [HI.out, HK.out]; exact Iff.rfl)
      clear hskip
      by_cases him : i < cs.length
      · obtain ⟨bA, oA, rfl, hbA, hcl⟩ := HX6.out.cl.at (by omega)
        have hca := hcl i him
        rw [← cl_at him] at hca
        have pmn := hca.mn
        have HCA := hid hca
        obtain ⟨m, hm2⟩ : ∃ m, m = cs.length := ⟨_, rfl⟩
        rw [← hm2] at pc1 him
        have HM2 := hid hm2
        generalize hmnE : (cl cs i).mn = mn at pmn
        have HMN := hid hmnE
        have q2 : (i : Int) < (m : Int) := by omega
        have q3 : decide ((i : Int) < (m : Int)) = true := decide_eq_true q2
        clear hcl hca hm2 hmnE him
        by_cases hmn : mn ≤ (k : Int)
        · have q4 : decide (mn ≤ (k : Int)) = true := decide_eq_true hmn
          have hnul : NulB cs x := HNU.out.2 ⟨by rw [← HM2.out]; omega, by rw [HMN.out]; exact hmn⟩
          have HNL := hid hnul
          have hcl2 : cs.length ≤ 100000 := by
            have := posTo_long cs cs.length
            rw [posL_len] at hnp
            unfold num at hnp
            omega
          have hi1 : i + 1 ≤ 1000000 := by have := HM2.out; omega
          have hpn : PosOk cs (i + 1) 0 := by
            have := hnul.1
            rw [← HI.out] at this
            exact next_ok this
          have hlk : ∀ W, Below w6.heap.size w6 W → (Instr.lookup 91 (.map (some B)) (.agg #[.int .i64 ((i : Int) + 1), .int .i64 0]) false).run Try.prog W = .ok (.int .i64 (nextP cs x : Nat)) W := fun W hW => by
            have := HX6.out.look hpn hi1 (by omega) W (hW.mono HX6.out.kw)
            unfold nextP
            rw [← HI.out]
            exact this
          obtain ⟨y, hy⟩ : ∃ y, y = nextP cs x := ⟨_, rfl⟩
          rw [← hy] at hlk
          have HY := hid hy
          have hly : y ≤ 1000000 := by rw [hy]; have := num_lt hpn; unfold nextP; rw [← HI.out]; omega
          have hsn : ∀ W, Below w6.heap.size w6 W → (Instr.lookup 111 (.map (some mb)) (.int .i64 (y : Int)) false).run Try.prog W = .ok (.int .i64 (if y ∈ x :: Kn then 1 else 0)) W := fun W hW => look_seen HO6.out HM5.out hly W (hW.block mb hZ6)
          have HLK := hid hlk; have HSN := hid hsn
          have hwi : IntKind.i64.wrap ((i : Int) + 1) = (i : Int) + 1 := IntWalk.i64_in _ (by omega)
          clear hlk hsn hnul hpn hmn hy
          go_quiet (fail)
          go_upto_region 8 with (fail)
          obtain ⟨w7, hw7⟩ : ∃ W, W = w6.drewN nq := ⟨_, rfl⟩
          have HB7 := hid (show Below w6.heap.size w6 w7 by rw [hw7]; exact below_drewN (Below.refl _ _) _)
          have hlk2 := fun n => HLK.out (w7.drewN n) (below_drewN HB7.out n)
          have d0 : w7.cell? ⟨w5.heap.size, 0, none⟩ = some (.int .i64 (i : Int)) := by rw [hw7]; exact d0
          have pc4 : w7.cell? ⟨B + 1, 4, none⟩ = some (.map (some B)) := by rw [hw7]; exact pc4
          rw [← hw7]
          clear hw7
          go_quiet (fail)
          go_upto_region 9 with (fail)
          obtain ⟨w8, hw8⟩ : ∃ W, W = w7.drewN nq := ⟨_, rfl⟩
          have hb8 : Below w6.heap.size w6 w8 := by rw [hw8]; exact below_drewN HB7.out _
          have HB8 := hid hb8
          rw [← hw8]
          have hsn2 := HSN.out w8 hb8
          clear hw8 d0 d1 pc4 pc1 pmn hlk2 hb8
          by_cases hyk : y ∈ x :: Kn
          · rw [if_pos hyk] at hsn2
            have HYK := hid hyk
            clear hyk
            go_wp2_with fail
            go_roundw
            case rel => exact HSK.out (fun _ => by rw [← HY.out]; exact HYK.out) _ HB8.out
            case measure => rw [HM0.out, HMQ.out _ HB8.out]; exact HML.out
          · rw [if_neg hyk] at hsn2
            have HQ8 := hid (HQ6.out.below HB8.out)
            clear hyk
            have hql : q.length ≤ 1000000 := by have := meas_len cs q; omega
            have HQL := hid (show (nzL q).length ≤ 1000000 by rw [nzL_len]; exact hql)
            have HK8 := hid (show K ≤ w8.heap.size from Nat.le_trans HX6.out.kw HB8.out.size)
            obtain ⟨w9, hw9⟩ : ∃ W, W = w8.alloc (.cells #[.int .i64 (y : Int)] 3) := ⟨_, rfl⟩
            have HB9 := hid (show Below w8.heap.size w8 w9 by rw [hw9]; exact (Below.refl _ _).alloc (Nat.le_refl _) _)
            have HCY := hid (show w9.cell? ⟨w8.heap.size, 0, none⟩ = some (.int .i64 (y : Int)) by rw [hw9]; exact cell_here rfl rfl)
            have HQ9 := hid (HQ8.out.below HB9.out)
            have HW9 := hid hw9
            clear hw9
            go_upto_region 10 with (fail)
            go_wp2_with (first | (at_builtin; rw [← HW9.out]; refine wp_push rfl (.tmp 64) (.tmp 66) rfl K _ (nzL q) rfl HQ9.out ⟨w8.heap.size, 0, none⟩ (y : Int) rfl HCY.out HQL.out (Nat.le_trans HK8.out HB9.out.size) ?_; intro v' w' hq' hg' ho'; have HQP := hid hq'; have HGP := hid hg'; have HOP := hid ho'; clear hq' hg' ho'))
            have hg9 : w9.grownBy w' (Value.slice A1 (N - 1) (cc1 - 1)).ownBlock := HGP.out
            have hb69 : Below w6.heap.size w6 w9 := HB8.out.trans (HB9.out.mono HB8.out.size)
            have hkb : ∀ j, (Value.slice A1 (N - 1) (cc1 - 1)).ownBlock = some j → K ≤ j := fun j hj => (HQ9.out.lt j hj).1
            have hb9 : Below K w6 w' := (hb69.mono HX6.out.kw).grown hg9 (Nat.le_trans HX6.out.kw hb69.size) hkb
            go_roundw
            case rel =>
              refine ⟨q ++ [nextP cs x], x :: Kn, _, r + 1, hid ?_, hid (hI.out.push HNL.out), hid HM5.out, hid (ownsMap_at HO6.out ((hg9.block mb (Nat.lt_of_lt_of_le hZ6 hb69.size) (fun e => HOB.out e.symm)).trans (hb69.block mb hZ6))), ?_, hid (HB6.out.trans hb9), Nat.lt_of_lt_of_le hZ6 hb9.size, fun e => ?_⟩
              · have := HQP.out
                rw [HY.out] at this
                unfold nzL at this ⊢
                rw [List.map_append]
                exact this
              · have h1 := meas_push HNL.out q
                have h2 := HML.out
                rw [meas_cons] at h2
                have h3 := hR.out
                rw [meas_cons] at h3
                omega
              · rcases HOP.out mb e with h1 | h1
                · exact HOB.out h1
                · have := Nat.lt_of_lt_of_le hZ6 hb69.size
                  omega
            case measure =>
              rw [HM0.out]
              have h1 := meas_push HNL.out q
              have h2 : qMeas cs K v' w' = meas cs (q ++ [nextP cs x]) := qMeas_eq (by
                have := HQP.out
                rw [HY.out] at this
                unfold nzL at this ⊢
                rw [List.map_append]
                exact this)
              rw [h2, meas_cons]
              omega
        · have q4 : decide (mn ≤ (k : Int)) = false := decide_eq_false hmn
          have HNO := hid (show ¬ NulB cs x from fun h => hmn (by rw [← HMN.out]; exact (HNU.out.1 h).2))
          clear hmn
          go_quiet (fail)
          go_wp2_with fail
          go_roundw
          case rel => exact HSK.out (fun h => absurd h HNO.out) _ (below_drewN (Below.refl _ _) _)
          case measure => rw [HM0.out, HMQ.out _ (below_drewN (Below.refl _ _) _)]; exact HML.out
      · obtain ⟨m, hm2⟩ : ∃ m, m = cs.length := ⟨_, rfl⟩
        rw [← hm2] at pc1 him
        have q3 : decide ((i : Int) < (m : Int)) = false := decide_eq_false (by omega)
        have q3n : decide (i < m) = false := decide_eq_false (by omega)
        have HNO := hid (show ¬ NulB cs x from fun h => him (by rw [hm2]; exact (HNU.out.1 h).1))
        clear him hm2
        go_quiet (fail)
        go_wp2_with fail
        go_roundw
        case rel => exact HSK.out (fun h => absurd h HNO.out) _ (below_drewN (Below.refl _ _) _)
        case measure => rw [HM0.out, HMQ.out _ (below_drewN (Below.refl _ _) _)]; exact HML.out
end Go.Proofs.Ytaoddenadfmdbaa

/- WALK: after: what is reached behind a sign. -/
namespace Go.Proofs.Ytaoddenadfmdbaa
open Go.RowKit Go.Maps
/-- The cells of the law: so few, so small. -/
structure CsOk (cs : List Cl) (n : Nat) : Prop where
  ok : ∀ c ∈ cs, ClOk n c
  sg : ∀ c ∈ cs, c.signs.length ≤ 20
  len : cs.length ≤ 50
  np : (posL cs).length ≤ 1000
/-- A set of positions as closed leaves it. -/
structure St (cs : List Cl) (S : List Nat) : Prop where
  ne : S ≠ []
  ok : SetOk cs S
  nd : S.Nodup
  cl : Closd cs S
theorem nodup_len : ∀ (N : Nat) (l : List Nat), l.Nodup → (∀ x ∈ l, x < N) → l.length ≤ N
  | 0, l, _, h => by
    cases l with
    | nil => simp
    | cons a l => have := h a (by simp); omega
  | N + 1, l, hn, h => by
    by_cases hm : N ∈ l
    · have h1 := nodup_len N (l.erase N) (hn.erase N) fun x hx => by
        have h2 := (hn.mem_erase_iff).1 hx
        have := h x h2.2
        have := h2.1
        omega
      rw [List.length_erase_of_mem hm] at h1
      omega
    · have := nodup_len N l hn fun x hx => by
        have := h x hx
        have h3 : x ≠ N := fun e => hm (by rw [← e]; exact hx)
        omega
      omega
theorem St.len {cs : List Cl} {S : List Nat} (h : St cs S) : S.length ≤ (posL cs).length := nodup_len _ _ h.nd h.ok
theorem own_rd {w : World} {b c n : Nat} {A : Option Addr} {l : List Int} (h : w.ownsRow b 3 1 (.slice A n c) n (ints l)) (hn : n = l.length) : Rd w w.heap.size A l := by
  subst hn
  refine ⟨by simp, fun hl => ?_⟩
  rcases h.2 with ⟨h1, h2⟩ | ⟨g, cap, cur, hv, _, hh, _⟩
  · rw [h2] at hl; omega
  · injection hv with e1 _ _
    subst e1
    exact ⟨_, rfl, lt_of_block hh, h.cells rfl⟩
/-- One position of stepS. -/
def step1 (cs : List Cl) (a : Int) (x : Nat) : List Nat := if (posAt cs x).1 < cs.length ∧ ((posAt cs x).2 : Int) < (cl cs (posAt cs x).1).mx ∧ alw (cl cs (posAt cs x).1) a = true then [x + 1] else []
theorem step_take {cs : List Cl} {a : Int} {S : List Nat} {j : Nat} (hj : j < S.length) : stepS cs a (S.take (j + 1)) = stepS cs a (S.take j) ++ step1 cs a S[j] := by
  rw [List.take_add_one, List.getElem?_eq_getElem hj]
  unfold stepS step1
  rw [List.filterMap_append]
  congr 1
  simp only [Option.toList_some, List.filterMap_cons, List.filterMap_nil]
  split <;> rename_i h <;> split at h <;> simp_all
theorem step_len (cs : List Cl) (a : Int) (S : List Nat) : (stepS cs a S).length ≤ S.length := List.length_filterMap_le _ _
/-- What after gives. -/
def Aft (cs : List Cl) (a : Int) (S : List Nat) (n0 : Nat) (e : Ending) (W : World) : Prop :=
  ((∀ T, ¬ lang cs S (a :: T)) ∧ e = .returned (.slice none 0 0)) ∨
  ∃ (S' : List Nat) (g c' : Nat), e = .returned (.slice (some ⟨g, 0, none⟩) S'.length c') ∧ St cs S' ∧ (∀ T, lang cs S' T ↔ lang cs S (a :: T)) ∧ W.ownsRow n0 3 1 (.slice (some ⟨g, 0, none⟩) S'.length c') S'.length (ints (nzL S'))
theorem Sx.up {cs : List Cl} {par : List Int} {n B : Nat} {A2 A3 : Option Addr} {c2 c3 gq cq : Nat} {D : DataW Unit} {K K' : Nat} {rv : Value} {W : World} (h : Sx cs par n B A2 A3 c2 c3 gq cq D K rv W) (h1 : K ≤ K') (h2 : K' ≤ W.heap.size) : Sx cs par n B A2 A3 c2 c3 gq cq D K' rv W :=
  ⟨h.s, h.cl, h.pa, h.ps, h.ix, h.mp, Nat.le_trans h.kb h1, Nat.lt_of_lt_of_le h.kq h1, h2⟩
set_option maxRecDepth 100000 in
set_option maxHeartbeats 4000000 in
theorem after_any {cs : List Cl} {par : List Int} {n B : Nat} {A2 A3 : Option Addr} {c2 c3 gq cq : Nat} {D : DataW Unit} {K : Nat} {rv : Value} (hc : CsOk cs n) (S : List Nat) (hS : St cs S) (a : Int) (A : Option Addr) (c : Nat) (w : World) (r : Rd w w.heap.size A (nzL S)) (h : Sx cs par n B A2 A3 c2 c3 gq cq D K rv w) :
    Calls Try.prog 57 #[.pointer (some ⟨B + 1, 0, none⟩), .slice A S.length c, .int .i64 a] w fun e w' => Aft cs a S w.heap.size e w' ∧ Below w.heap.size w w' := by
  have hSl := hS.len; have hnp := hc.np; have hcl := hc.len
  obtain ⟨m, hm⟩ : ∃ m, m = S.length := ⟨_, rfl⟩
  rw [← hm] at hSl ⊢
  have HC := hid hc; have HS := hid hS; have R := hid r; have H := hid h; have HM := hid hm
  clear hc hS r h hm
  go_enter Try.func57, Try.ntmps57
  go_wp2_with fail
  go_loopw [7, 13] (fun v7 jv wr => ∃ j : Nat, j ≤ m ∧ jv = .int .i64 (j : Int) ∧ Hid (wr.ownsRow w.heap.size 3 1 v7 (stepS cs a (S.take j)).length (ints (nzL (stepS cs a (S.take j))))) ∧ Hid (Below w.heap.size w wr)) (fun _ jv _ => m - (intOf jv).toNat)
  case atStart => exact ⟨0, by omega, rfl, hid (World.ownsRow_nil _ _ _ _), hid (Below.refl _ _)⟩
  case round =>
    obtain ⟨j, hj, rfl, hO, hB⟩ := hrel
    by_cases hjm : j < m
    · have hjS : j < S.length := by rw [← HM.out]; exact hjm
      have hrd := R.out.below hB.out
      obtain ⟨b, o, rfl, _, hcel⟩ := hrd.at (by rw [nzL_len]; omega)
      have p1 := hcel j (by rw [nzL_len]; exact hjS)
      rw [nzL_nth hjS] at p1
      have HST := hid (step_take (cs := cs) (a := a) hjS)
      have hxl := HS.out.ok _ (List.getElem_mem hjS)
      generalize S[j]'hjS = x at p1 HST hxl
      have HX := hid (H.out.below hB.out)
      have HLX := hid hxl
      have pc3 := HX.out.s.cells.c3
      obtain ⟨pp1, pp2⟩ := HX.out.ps x hxl
      obtain ⟨np, hnpe⟩ : ∃ np, np = (posL cs).length := ⟨_, rfl⟩
      have q0 : (j : Int) < (m : Int) := by omega
      have q1 : (x : Int) < (np : Int) := by rw [hnpe]; exact Int.ofNat_lt.2 hxl
      have hnx : num cs (posAt cs x).1 (posAt cs x).2 = x := num_posAt hxl
      have hpx := posAt_ok hxl
      rw [← hnpe] at pc3
      obtain ⟨i, hi⟩ : ∃ i, i = (posAt cs x).1 := ⟨_, rfl⟩
      obtain ⟨k, hk⟩ : ∃ k, k = (posAt cs x).2 := ⟨_, rfl⟩
      have HST1 : Hid (step1 cs a x = if i < cs.length ∧ (k : Int) < (cl cs i).mx ∧ alw (cl cs i) a = true then [x + 1] else []) := hid (by rw [hi, hk]; rfl)
      rw [← hi] at pp1; rw [← hk] at pp2
      rw [← hi, ← hk] at hnx hpx
      have HNX := hid hnx; have HPX := hid hpx
      clear hi hk hnpe hxl hnx hpx hrd hcel hjS
      obtain ⟨w6, hw6⟩ : ∃ W, W = wr.alloc (.cells #[.int .i64 (i : Int), .int .i64 (k : Int)] 98) := ⟨_, rfl⟩
      have hb6 : Below wr.heap.size wr w6 := by rw [hw6]; exact (Below.refl _ _).alloc (Nat.le_refl _) _
      have HW6 := hid hw6
      have d0 : w6.cell? ⟨wr.heap.size, 0, none⟩ = some (.int .i64 (i : Int)) := by rw [hw6]; exact cell_here rfl rfl
      have d1 : w6.cell? ⟨wr.heap.size, 1, none⟩ = some (.int .i64 (k : Int)) := by rw [hw6]; exact cell_here rfl rfl
      have hs6 : wr.heap.size < w6.heap.size := by rw [hw6]; simp
      have HS6 := hid hs6
      have HX6 := hid (HX.out.below hb6)
      have HO6 := hid (own_keep hO.out hb6)
      have HB6 := hid (hB.out.trans (hb6.mono hB.out.size))
      have HB6b := hid hb6
      clear hw6 hb6 hs6 hB HX
      go_upto_region 6 with (fail)
      rw [← HW6.out]
      clear pc3 pp1 pp2 p1
      have pc1 := HX6.out.s.cells.c1; have pc4 := HX6.out.s.cells.c4
      have hskip : (step1 cs a x = []) → ∀ W, Below w6.heap.size w6 W → ∃ j2 : Nat, j2 ≤ m ∧ Value.int .i64 ((j : Int) + 1) = .int .i64 (j2 : Int) ∧ Hid (W.ownsRow w.heap.size 3 1 u7 (stepS cs a (S.take j2)).length (ints (nzL (stepS cs a (S.take j2))))) ∧ Hid (Below w.heap.size w W) := fun he W hW => by
        refine ⟨j + 1, by omega, by go_num, hid ?_, hid (HB6.out.trans (hW.mono HB6.out.size))⟩
        rw [HST.out, he, List.append_nil]
        exact own_keep HO6.out hW
      have HSK := hid hskip
      clear hskip
      by_cases him : i < cs.length
      · obtain ⟨bA, oA, rfl, hbA, hcla⟩ := HX6.out.cl.at (by omega)
        have hca := hcla i him
        have hmemc := List.getElem_mem him
        have hrsg := HX6.out.cl.sgs _ hmemc
        have hsg20 := HC.out.sg _ hmemc
        have hck := HC.out.ok _ hmemc
        rw [← cl_at him] at hca hrsg hsg20 hck
        have HRS := hid hrsg; have HS20 := hid hsg20; have HCK := hid hck
        have pmn := hca.mn; have pmx := hca.mx; have psg := hca.sg
        obtain ⟨m2, hm2⟩ : ∃ m, m = cs.length := ⟨_, rfl⟩
        rw [← hm2] at pc1 him
        have HM2 := hid hm2
        have q2 : (i : Int) < (m2 : Int) := by omega
        have q3 : decide ((i : Int) < (m2 : Int)) = true := decide_eq_true q2
        have HIM := hid him
        clear hcla hca hm2 him hmemc hrsg hsg20 hck
        obtain ⟨mX, hmX⟩ : ∃ m : Int, m = (cl cs i).mx := ⟨_, rfl⟩
        rw [← hmX] at pmx
        have HMX := hid hmX
        clear hmX
        by_cases hmx : (k : Int) < mX
        · have q4 : decide ((k : Int) < mX) = true := decide_eq_true hmx
          have HKX := hid hmx
          clear hmx
          have HAL := hid (allows_any (cl cs i) a HS20.out w6.drew B (by have := HX6.out.kb; have := HX6.out.kw; simp; omega) (HRS.out.below (Below.refl _ _).drew))
          obtain ⟨al, hal⟩ : ∃ b, b = alw (cl cs i) a := ⟨_, rfl⟩
          rw [← hal] at HAL
          have HALW := hid hal
          clear hal
          obtain ⟨sa, hsa⟩ : ∃ s, s = (cl cs i).sa := ⟨_, rfl⟩
          obtain ⟨sc, hsc⟩ : ∃ s, s = (cl cs i).sc := ⟨_, rfl⟩
          obtain ⟨sl, hsl⟩ : ∃ s, s = (cl cs i).signs.length := ⟨_, rfl⟩
          obtain ⟨mN, hmN⟩ : ∃ s, s = (cl cs i).mn := ⟨_, rfl⟩
          rw [← hsa, ← hsc, ← hsl] at psg HAL
          rw [← hmN] at pmn HAL
          rw [← HMX.out] at HAL
          clear hsa hsc hsl hmN
          cases al with
          | false =>
            have HNO := hid (show step1 cs a x = [] by rw [HST1.out, if_neg (fun h => by have h2 := h.2.2; rw [← HALW.out] at h2; cases h2)])
            go_still_tail 32, (by kernel_rfl)
            change wpList _ _ _ _ _ w6.drew
            go_wp2_with (first | (go_at_call 67; refine HAL.out.mono ?_; rintro e w7 ⟨rfl, h7⟩; have H7 := hid h7; clear h7))
            go_roundw
            case rel => exact HSK.out HNO.out _ ((Below.refl _ _).drew.trans H7.out)
            case measure => simp [intOf]; omega
          | true =>
            have hst : step1 cs a x = [x + 1] := by
              rw [HST1.out, if_pos]
              exact ⟨by rw [← HM2.out]; exact HIM.out, by rw [← HMX.out]; exact HKX.out, HALW.out.symm⟩
            have hpk : PosOk cs i (k + 1) := .inl ⟨by rw [← HM2.out]; exact HIM.out, by have h1 := HKX.out; have h2 := HMX.out; omega⟩
            have hx1 : num cs i (k + 1) = x + 1 := by rw [num_next, HNX.out]
            have hi1 : i ≤ 1000000 := by have := HIM.out; have := HM2.out; omega
            have hk1 : k + 1 ≤ 1000000 := by have h1 := HKX.out; have h2 := HCK.out.hi; have h3 := HMX.out; omega
            have hlk : ∀ W, Below w.heap.size w6 W → (Instr.lookup 91 (.map (some B)) (.agg #[.int .i64 (i : Int), .int .i64 ((k : Int) + 1)]) false).run Try.prog W = .ok (.int .i64 ((x : Int) + 1)) W := fun W hW => by
              have := HX6.out.look hpk hi1 hk1 W (hW.mono H.out.kw)
              rw [hx1] at this
              exact this
            have HLK := hid hlk; have HSTP := hid hst
            clear hlk hst hpk hx1
            go_still_tail 32, (by kernel_rfl)
            change wpList _ _ _ _ _ w6.drew
            go_wp2_with (first | (go_at_call 67; refine HAL.out.mono ?_; rintro e w7 ⟨rfl, h7⟩; have H7 := hid h7; clear h7))
            have hb7 : Below w6.heap.size w6 w7 := (Below.refl _ _).drew.trans H7.out
            have hbk6 : w6.heap[wr.heap.size]? = some (.cells #[.int .i64 (i : Int), .int .i64 (k : Int)] 98 (0, 0)) := by rw [HW6.out]; exact nwB rfl
            have HRD := hid fun (W : World) (hW : Below w.heap.size w6 W ∧ W.heap[wr.heap.size]? = w6.heap[wr.heap.size]?) => (show W.cell? ⟨wr.heap.size, 0, none⟩ = some (.int .i64 (i : Int)) ∧ W.cell? ⟨wr.heap.size, 1, none⟩ = some (.int .i64 (k : Int)) ∧ W.cell? ⟨B + 1, 4, none⟩ = some (.map (some B)) from by
              refine ⟨?_, ?_, ((HX6.out.up (K' := w.heap.size) H.out.kw HB6.out.size).keep hW.1).s.cells.c4⟩
              · simp [World.cell?, hW.2, hbk6]
              · simp [World.cell?, hW.2, hbk6])
            have hww : Below w.heap.size w6 w7.drew ∧ w7.drew.heap[wr.heap.size]? = w6.heap[wr.heap.size]? := ⟨(hb7.mono HB6.out.size).drew, hb7.block _ HS6.out⟩
            have HWW := hid hww
            have hwk : IntKind.i64.wrap ((k : Int) + 1) = (k : Int) + 1 := IntWalk.i64_in _ (by omega)
            obtain ⟨w8, hw8⟩ : ∃ W, W = w7.drew := ⟨_, rfl⟩
            have HO8 := hid (show w8.ownsRow w.heap.size 3 1 u7 (stepS cs a (S.take j)).length (ints (nzL (stepS cs a (S.take j)))) by rw [hw8]; exact own_keep HO6.out hb7.drew)
            have HB8 := hid (show Below w.heap.size w w8 by rw [hw8]; exact HB6.out.trans (hb7.mono HB6.out.size).drew)
            have HZ8 := hid (show wr.heap.size < w8.heap.size by rw [hw8]; exact Nat.lt_of_lt_of_le HS6.out hb7.size)
            have HO0 := hid fun (g : Nat) (e : u7.ownBlock = some g) => (hO.out.lt g e)
            obtain ⟨N, hN⟩ : ∃ N, N = (stepS cs a (S.take j)).length := ⟨_, rfl⟩
            have hN1 : N ≤ 1000 := by have := step_len cs a (S.take j); rw [List.length_take] at this; omega
            rw [← hN] at HO8
            have HN := hid hN
            clear hb7 pc1 pmn pmx psg d0 d1 pc4 hbk6 hww hN
            refine region_call [0, 1, 2, 3, 4, 5, 6, 7, 8, 9, 10, 11] [12, 13] [14] (fun W => Below w.heap.size w6 W ∧ W.heap[wr.heap.size]? = w6.heap[wr.heap.size]?) (by kernel_rfl) (by kernel_rfl) (fun d _ _ _ _ h => by cases d <;> exact h) HWW.out ?_
            apply Exists.intro
            simp only [List.map_cons, List.map_nil, List.getD_cons_zero, List.getD_cons_succ]
            refine ⟨⟨u7, Or.inl ⟨by rfl, fun W hW => by go_simp⟩, _, Or.inl ⟨by rfl, fun W hW => by go_simp; rfl⟩, _, Or.inl ⟨by rfl, fun W hW => by go_simp; rfl⟩, _, Or.inl ⟨by rfl, fun W hW => by go_simp; rfl⟩, .map (some B), Or.inl ⟨by rfl, fun W hW => by have p := (HRD.out W hW).2.2; go_simp⟩, _, Or.inl ⟨by rfl, fun W hW => by go_simp; rfl⟩, .int .i64 (i : Int), Or.inl ⟨by rfl, fun W hW => by have p := (HRD.out W hW).1; go_simp⟩, _, Or.inl ⟨by rfl, fun W hW => by go_simp; rfl⟩, .int .i64 (k : Int), Or.inl ⟨by rfl, fun W hW => by have p := (HRD.out W hW).2.1; go_simp⟩, .int .i64 ((k : Int) + 1), Or.inl ⟨by rfl, fun W hW => by go_simp⟩, .agg #[.int .i64 (i : Int), .int .i64 ((k : Int) + 1)], Or.inl ⟨by rfl, fun W hW => by go_simp⟩, .int .i64 ((x : Int) + 1), Or.inl ⟨by rfl, fun W hW => by have p := HLK.out W hW.1; go_simp⟩, rfl⟩, ?_⟩
            simp only [Act.put, List.setIfInBounds_toArray, List.set_cons_zero, List.set_cons_succ]
            rw [← hw8] at HWW ⊢
            clear hw8
            refine wpMid_step rfl (fun K hK => ?_)
            go_simp
            have HA8 := hid (show Below w8.heap.size w8 (w8.alloc (.cells #[.int .i64 ((x : Int) + 1)] 3)) from (Below.refl _ _).alloc (Nat.le_refl _) _)
            have hS9 : Below w.heap.size w6 (w8.alloc (.cells #[.int .i64 ((x : Int) + 1)] 3)) ∧ (w8.alloc (.cells #[.int .i64 ((x : Int) + 1)] 3)).heap[wr.heap.size]? = w6.heap[wr.heap.size]? :=
              ⟨HWW.out.1.trans (HA8.out.mono HB8.out.size), (HA8.out.block _ HZ8.out).trans HWW.out.2⟩
            have HS9 := hid hS9
            refine hK.out _ _ hS9 ?_
            clear hK K hS9
            refine wpMid_step rfl (fun K hK => ?_)
            refine op_elemF (.tmp 58) (.tmp 70) Try.underlying26 Try.infoInt rfl (by decide) (by decide) rfl w.heap.size _ N _ rfl (HO8.out.alloc _) ⟨w8.heap.size, 0, none⟩ [.int .i64 ((x : Int) + 1)] rfl rfl (fun j x h => cell_news_at w8 _ _ rfl j x h) (by simp [Value.oneCell']) (by omega) (by have := HB8.out.size; simp; omega) ?_
            intro v9 w9 ho9 hg9 hf9
            have hb9 : Below w.heap.size w8 w9 := (HA8.out.mono HB8.out.size).grown hg9 (by have := HB8.out.size; simp; omega) (fun j hj => (HO0.out j hj).1)
            have hne : some wr.heap.size ≠ u7.ownBlock := fun e => Nat.lt_irrefl _ (HO0.out _ e.symm).2
            have HO9 := hid ho9
            have HB9 := hid (HB8.out.trans hb9)
            refine hK.out _ _ ⟨HWW.out.1.trans hb9, (hg9.block _ (by have := HZ8.out; simp; omega) hne).trans HS9.out.2⟩ ?_
            clear hK K ho9 hg9 hf9 hb9 hne
            simp only [wpMid, Act.put, List.setIfInBounds_toArray, List.set_cons_zero, List.set_cons_succ]
            go_wp2_with fail
            go_roundw
            case rel =>
              refine ⟨j + 1, by omega, by go_num, hid ?_, HB9⟩
              have h9 := HO9.out
              rw [HST.out, HSTP.out, List.length_append, List.length_singleton, ← HN.out]
              rw [show ints (nzL (stepS cs a (S.take j) ++ [x + 1])) = ints (nzL (stepS cs a (S.take j))) ++ [.int .i64 ((x : Int) + 1)] by simp [ints, nzL]]
              exact h9
            case measure => simp [intOf]; omega
        · have q4 : decide ((k : Int) < mX) = false := decide_eq_false hmx
          have HNO := hid (show step1 cs a x = [] by rw [HST1.out, if_neg (fun h => hmx (by rw [HMX.out]; exact h.2.1))])
          clear hmx
          go_quiet (fail)
          go_wp2_with fail
          go_roundw
          case rel => exact HSK.out HNO.out _ (below_drewN (Below.refl _ _) _)
          case measure => simp [intOf]; omega
      · obtain ⟨m2, hm2⟩ : ∃ m, m = cs.length := ⟨_, rfl⟩
        rw [← hm2] at pc1 him
        have q3 : decide ((i : Int) < (m2 : Int)) = false := decide_eq_false (by omega)
        have q3n : decide (i < m2) = false := decide_eq_false him
        have HNO := hid (show step1 cs a x = [] by rw [HST1.out, if_neg (fun h => him (by rw [hm2]; exact h.1))])
        clear him hm2
        go_quiet (fail)
        go_wp2_with fail
        go_roundw
        case rel => exact HSK.out HNO.out _ (below_drewN (Below.refl _ _) _)
        case measure => simp [intOf]; omega
    · obtain rfl : j = m := by omega
      have e0 : decide ((j : Int) < (j : Int)) = false := by simp
      have hO2 := hO.out
      rw [show S.take j = S by rw [HM.out]; simp] at hO2
      obtain ⟨A7, c7, rfl⟩ := own_slice hO2
      have HO := hid hO2
      have HX := hid ((H.out.below hB.out).up (K' := w.heap.size) H.out.kw hB.out.size)
      obtain ⟨N, hN⟩ : ∃ N, N = (stepS cs a S).length := ⟨_, rfl⟩
      rw [← hN] at HO ⊢
      have HN := hid hN
      clear hO2 hO hN
      by_cases h0 : N = 0
      · have e1 : ((N : Int) == 0) = true := by simp [h0]
        have HE := hid (show stepS cs a S = [] from List.eq_nil_of_length_eq_zero (by rw [← HN.out]; exact h0))
        clear h0
        go_wp2_with fail
        go_ret
        refine ⟨.inl ⟨fun T hT => ?_, rfl⟩, by first | exact hB.out | exact hB.out.drew | exact below_drewN hB.out _⟩
        have := (step_lang HS.out.ok HS.out.cl T).2 hT
        rw [HE.out] at this
        obtain ⟨x, hx, _⟩ := this
        cases hx
      · have e1 : ((N : Int) == 0) = false := by simp [h0]
        have hne : stepS cs a S ≠ [] := fun e => h0 (by rw [HN.out, e]; rfl)
        have hml : meas cs (stepS cs a S) ≤ 100000 := by
          have h1 := meas_le cs (stepS cs a S)
          have h2 := step_len cs a S
          have h3 : (stepS cs a S).length * (cs.length + 1) ≤ 1000 * 51 := Nat.mul_le_mul (by have := HM.out; omega) (by omega)
          omega
        have HCA := hid (closed_any (by omega) HC.out.ok (stepS cs a S) (step_ok HS.out.ok) hne hml _ wr (Qu.of_own HO.out (by rw [nzL_len]; exact HN.out) (by rw [nzL_len, ← HN.out]; omega)) HX.out)
        clear h0 hne hml
        go_wp2_with (first | (go_at_call 38; refine HCA.out.mono ?_; rintro e w7 ⟨S', A', c', rfl, k1, k2, k3, k4, k5, k6, k7⟩; have K1 := hid (St.mk k1 k2 k3 k4); have K5 := hid k5; have K6 := hid k6; have K7 := hid k7; clear k1 k2 k3 k4 k5 k6 k7))
        go_ret
        have hl : 0 < S'.length := List.length_pos_iff.2 K1.out.ne
        obtain ⟨g, cap, cur, hv, _⟩ := (K6.out.2).resolve_left (fun h => by omega)
        injection hv with e1 _ _
        subst e1
        exact ⟨.inr ⟨S', g, c', rfl, K1.out, fun T => (K5.out T).trans (step_lang HS.out.ok HS.out.cl T), own_lower K6.out hB.out.size⟩, hB.out.trans K7.out⟩
end Go.Proofs.Ytaoddenadfmdbaa
