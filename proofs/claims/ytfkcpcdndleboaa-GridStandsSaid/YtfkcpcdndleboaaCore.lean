/- PLAIN LAW: the error of a text does not look at where a list's values lie. -/
import Derived.Test.YtfkcpcdndleboaaChk
import Derived.Test.YtfkcpcdndleboaaCopy
namespace Go.Proofs.Ytfkcpcdndleboaa
theorem core_eq {s t : Sg} (h : s.core = t.core) : s.code = t.code ∧ s.wide = t.wide ∧ s.high = t.high ∧ s.even = t.even ∧ s.vals = t.vals := by
  obtain ⟨s1, s2, s3, s4, s5, s6, s7⟩ := s
  obtain ⟨t1, t2, t3, t4, t5, t6, t7⟩ := t
  simp only [Sg.core, Sg.mk.injEq, and_true] at h
  exact h
theorem core_len {ss ss' : List Sg} (h : ss'.map Sg.core = ss.map Sg.core) : ss'.length = ss.length := by
  have := congrArg List.length h
  simpa using this
theorem vals_core {ss ss' : List Sg} (h : ss'.map Sg.core = ss.map Sg.core) {n : Nat} (hv : ∀ s ∈ ss, s.vals.length ≤ n) : ∀ s ∈ ss', s.vals.length ≤ n := fun s hs => by
  have h1 : s.core ∈ ss.map Sg.core := by rw [← h]; exact List.mem_map_of_mem hs
  obtain ⟨t, ht, e⟩ := List.mem_map.1 h1
  have h2 := (core_eq e).2.2.2.2
  rw [← h2]
  exact hv t ht
end Go.Proofs.Ytfkcpcdndleboaa
