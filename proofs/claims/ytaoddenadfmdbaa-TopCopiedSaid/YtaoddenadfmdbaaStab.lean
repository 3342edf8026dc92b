/- PLAIN: the order of the variants: a stable sort by place. -/
import Derived.Test.YtaoddenadfmdbaaItems
import Derived.Sort.LotA
namespace Go.Proofs.Ytaoddenadfmdbaa
open Go.Sort
/-- A variant in memory: place, copy, signs. -/
abbrev Vt := Int × Int × Option Addr × Nat × Nat × List Int
abbrev Vb := { t : Vt // 0 ≤ t.1 ∧ t.1 ≤ 1000 }
instance : Inhabited Vb := ⟨⟨(0, 0, none, 0, 0, []), by decide⟩⟩
def kv (t : Vb) : Int := t.1.1
def encV (t : Vb) : List Value := [.int .i64 t.1.1, .int .i64 t.1.2.1, .slice t.1.2.2.1 t.1.2.2.2.1 t.1.2.2.2.2.1]
def ltV (x y : Vb) : Bool := decide (kv x < kv y)
theorem swo_ltV : SWO ltV := ⟨fun x => by simp [ltV], fun x y z h1 h2 => by simp [ltV] at *; omega, fun x y z h1 h2 => by simp [ltV] at *; omega⟩
/-- The elements of each place stand as they stood. -/
def Keep (d d' : Array Vb) : Prop := d'.size = d.size ∧ ∀ a : Int, d'.toList.filter (fun t => decide (kv t = a)) = d.toList.filter (fun t => decide (kv t = a))
theorem Keep.refl (d : Array Vb) : Keep d d := ⟨rfl, fun _ => rfl⟩
theorem Keep.trans {d d' d'' : Array Vb} (h : Keep d d') (h' : Keep d' d'') : Keep d d'' := ⟨h'.1.trans h.1, fun a => (h'.2 a).trans (h.2 a)⟩
theorem filt_swap (p : Vb → Bool) : ∀ (l : List Vb) (j : Nat) (x y : Vb), l[j]? = some x → l[j + 1]? = some y → ¬ (p x = true ∧ p y = true) → ((l.set (j + 1) x).set j y).filter p = l.filter p
  | [], j, x, y, h, _, _ => by simp at h
  | [_], 0, x, y, _, h, _ => by simp at h
  | a :: b :: r, 0, x, y, h1, h2, hn => by
    simp at h1 h2
    subst h1; subst h2
    simp only [List.set_cons_succ, List.set_cons_zero, List.filter_cons]
    by_cases ha : p a = true <;> by_cases hb : p b = true <;> simp [ha, hb]
    exact absurd ⟨ha, hb⟩ hn
  | a :: r, j + 1, x, y, h1, h2, hn => by
    simp only [List.set_cons_succ, List.filter_cons]
    rw [filt_swap p r j x y (by simpa using h1) (by simpa using h2) hn]
theorem keep_swp {d : Array Vb} {j : Nat} (hj : j + 1 < d.size) (hne : kv d[j + 1]! ≠ kv d[j]!) : Keep d (swp d (j + 1) j) := by
  refine ⟨by simp [swp], fun a => ?_⟩
  have e1 : d[j]! = d[j] := getElem!_pos d j (by omega)
  have e2 : d[j + 1]! = d[j + 1] := getElem!_pos d (j + 1) hj
  have := filt_swap (fun t => decide (kv t = a)) d.toList j d[j] d[j + 1] (by simp) (by simp [hj]) (fun h => by simp at h; exact hne (by rw [e1, e2, h.1, h.2]))
  rw [← this]
  unfold swp
  rw [e1, e2]
  simp
theorem keep_insInner (a : Nat) : ∀ (j : Nat) (d : Array Vb), j < d.size → Keep d (insInner ltV a j d)
  | 0, d, _ => by rw [insInner]; exact Keep.refl d
  | j + 1, d, hj => by
    rw [insInner]
    split
    · rename_i h
      simp [ltV] at h
      have k := keep_swp hj (by omega)
      exact k.trans (keep_insInner a j _ (by rw [k.1]; omega))
    · exact Keep.refl d
theorem keep_insOuter (a b : Nat) : ∀ (n i : Nat) (d : Array Vb), b - i ≤ n → b ≤ d.size → Keep d (insOuter ltV a b i d) := by
  intro n
  induction n with
  | zero => intro i d h hb; rw [insOuter, if_neg (by omega)]; exact Keep.refl d
  | succ n ih =>
    intro i d h hb
    rw [insOuter]
    split
    · rename_i hi
      have k := keep_insInner a i d (by omega)
      exact k.trans (ih _ _ (by omega) (by rw [k.1]; exact hb))
    · exact Keep.refl d
theorem keep_ins (d : Array Vb) (a b : Nat) (hb : b ≤ d.size) : Keep d (insertionSort ltV d a b) := keep_insOuter a b _ _ d (Nat.le_refl _) hb
theorem sorted_ins (d : Array Vb) (a b : Nat) (hab : a ≤ b) (hb : b ≤ d.size) : SortedIn ltV a b (insertionSort ltV d a b) := (insertionSort_holds swo_ltV d a b hab hb).2
/-- d' is d, sorted by place, in which the elements of each place stand as they stood. -/
def Stab (d d' : Array Vb) : Prop := Keep d d' ∧ SortedIn ltV 0 d.size d'
end Go.Proofs.Ytaoddenadfmdbaa
