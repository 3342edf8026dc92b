/- PLAIN LAW: the error of a text does not look at where a list's values lie. -/
import Derived.Test.YtddbnggficlcfaaChk
import Derived.Test.YtddbnggficlcfaaCopy
namespace Go.Proofs.Ytddbnggficlcfaa
theorem sg_core {ss ss' : List Sg} (h : ss'.map Sg.core = ss.map Sg.core) (i : Nat) : (sg ss' i).core = (sg ss i).core := by
  have e : ∀ l : List Sg, (sg l i).core = (l.map Sg.core).getD i (default : Sg).core := fun l => by
    unfold sg
    rw [List.getD_eq_getElem?_getD, List.getD_eq_getElem?_getD, List.getElem?_map]
    cases l[i]? <;> rfl
  rw [e, e, h]
theorem core_eq {s t : Sg} (h : s.core = t.core) : s.code = t.code ∧ s.wide = t.wide ∧ s.high = t.high ∧ s.even = t.even ∧ s.vals = t.vals := by
  obtain ⟨s1, s2, s3, s4, s5, s6, s7⟩ := s
  obtain ⟨t1, t2, t3, t4, t5, t6, t7⟩ := t
  simp only [Sg.core, Sg.mk.injEq, and_true] at h
  exact h
theorem sgE_core {P : Int} {s t : Sg} (h : s.core = t.core) : sgE P s = sgE P t := by
  obtain ⟨_, h2, h3, _, h5⟩ := core_eq h
  unfold sgE
  rw [h2, h3, h5]
theorem sameC_core {ss ss' : List Sg} (h : ss'.map Sg.core = ss.map Sg.core) (t : ByteArray) : sameC ss' t = sameC ss t := by
  funext j
  unfold sameC
  rw [(core_eq (sg_core h j)).1]
theorem sgnE_core {P : Int} {ss ss' : List Sg} (h : ss'.map Sg.core = ss.map Sg.core) (i : Nat) : sgnE P ss' i = sgnE P ss i := by
  unfold sgnE seenB
  rw [sameC_core h, (core_eq (sg_core h i)).1, sgE_core (sg_core h i)]
theorem core_len {ss ss' : List Sg} (h : ss'.map Sg.core = ss.map Sg.core) : ss'.length = ss.length := by
  have := congrArg List.length h
  simpa using this
theorem listE_core {P : Int} {ss ss' : List Sg} (h : ss'.map Sg.core = ss.map Sg.core) : listE P ss' = listE P ss := by
  unfold listE
  rw [core_len h, firstE_congr fun k _ => sgnE_core h k]
theorem evenOf_core {ss ss' : List Sg} (h : ss'.map Sg.core = ss.map Sg.core) (s : Int) : evenOf ss' s = evenOf ss s := (core_eq (sg_core h s.toNat)).2.2.2.1
theorem ownE_core {ss ss' : List Sg} (h : ss'.map Sg.core = ss.map Sg.core) (l : List Nd) (i : Nat) : ownE ss' l i = ownE ss l i := by
  unfold ownE
  rw [core_len h, evenOf_core h]
theorem chkE_core {P : Int} {ss ss' : List Sg} (h : ss'.map Sg.core = ss.map Sg.core) (l : List Nd) : chkE P ss' l = chkE P ss l := by
  unfold chkE
  rw [listE_core h, firstE_congr fun k _ => ownE_core h l k]
theorem vals_core {ss ss' : List Sg} (h : ss'.map Sg.core = ss.map Sg.core) {n : Nat} (hv : ∀ s ∈ ss, s.vals.length ≤ n) : ∀ s ∈ ss', s.vals.length ≤ n := fun s hs => by
  have h1 : s.core ∈ ss.map Sg.core := by rw [← h]; exact List.mem_map_of_mem hs
  obtain ⟨t, ht, e⟩ := List.mem_map.1 h1
  have h2 := (core_eq e).2.2.2.2
  rw [← h2]
  exact hv t ht
end Go.Proofs.Ytddbnggficlcfaa
