/- Layer 6: a cursor stays within bounds. -/
import Derived.Test.YtckonoejmjblfaaGreatPkExpA
set_option linter.unusedVariables false
set_option linter.unusedSimpArgs false
namespace Go.Proofs.YtckonoejmjblfaaGreat.Ev
open Go Go.RowKit
theorem readP_ok {c : Cu} (hk : c.Ok) : (readP c).1.Ok := by
  have := (lvN_fine (c.r.length + 1) 1 c).1.1 hk
  unfold readP
  simp only
  split
  · split
    · exact this.fail _
    · split
      · exact this.fail _
      · exact this
  · exact this
theorem readP_len (c : Cu) : (readP c).2.length ≤ 40 := by
  unfold readP
  simp only
  generalize lvN (c.r.length + 1) 1 c = x
  by_cases h1 : x.1.e = 0
  · rw [if_pos h1]
    by_cases h2 : 40 < x.2.length
    · rw [if_pos h2, if_neg (Cu.fail_e (by decide))]
      simp
    · rw [if_neg h2]
      by_cases h3 : 12 < depV x.2
      · rw [if_pos h3, if_neg (Cu.fail_e (by decide))]
        simp
      · rw [if_neg h3, if_pos h1]
        omega
  · rw [if_neg h1, if_neg h1]
    simp
end Go.Proofs.YtckonoejmjblfaaGreat.Ev
