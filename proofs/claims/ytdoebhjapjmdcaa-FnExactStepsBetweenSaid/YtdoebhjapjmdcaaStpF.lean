/- StepsBetween: the law's walk. -/
import Derived.Test.YtdoebhjapjmdcaaStpE
import Derived.Test.YtdoebhjapjmdcaaHeldF
namespace Go.Proofs.Ytdoebhjapjmdcaa
open Go.RowKit

set_option maxRecDepth 100000 in
theorem law_StepsBetween (p q k : Int) (w : World) :
    Calls Try.prog 5 #[.agg #[.int .i64 p, .int .i64 q], .int .i64 k] w fun e w' => e = .returned (.bool true) ∧ Below w.heap.size w w' := by
  have hS := specSteps_any p q k
  have hI := implSteps_any p q k
  generalize sbx p q k = xs at *
  generalize sbc p q k = c at *
  go_enter Try.func5, Try.ntmps5
  have HK := hide (Blk.new w 23 #[.int .i64 p, .int .i64 q])
  have C0 := (Below.refl (w.alloc (.cells #[.int .i64 p, .int .i64 q] 23)).heap.size (w.alloc (.cells #[.int .i64 p, .int .i64 q] 23)))
  go_wp2_with fail
  refine (toFraction_any p q _).mono ?_
  rintro e f1 ⟨rfl, hf⟩
  have C0 := C0.trans (hf.mono C0.size)
  clear hf
  go_wp2_with fail
  refine (hS _).mono ?_
  rintro e w1 ⟨v0, rfl, Ls, hb⟩
  have C0 := C0.trans (hb.mono C0.size)
  clear hb
  obtain ⟨d, _, _, _⟩ := HK.out.after C0 (by simp)
  have d0 := d 0
  have d1 := d 1
  clear d
  have CA := Below.refl w1.heap.size w1
  have CZ := C0.size
  go_wp2_with fail
  refine (toFraction_any p q _).mono ?_
  rintro e f2 ⟨rfl, hf⟩
  have C0 := C0.trans (hf.mono C0.size)
  have CA := CA.trans (hf.mono CA.size)
  clear hf
  clear d0 d1
  have Ls := Ls.keep CA
  clear CA
  have CA := Below.refl f2.heap.size f2
  have CZ := C0.size
  go_wp2_with fail
  refine (hI _).mono ?_
  rintro e w2 ⟨v1, rfl, Lg, hb⟩
  have C0 := C0.trans (hb.mono C0.size)
  have CA := CA.trans (hb.mono CA.size)
  clear hb
  go_wp2_with fail
  refine (eqLstF_any _ _ _ _ xs _ Lg (Ls.keep CA)).mono ?_
  rintro e w3 ⟨rfl, hq⟩
  have C0 := C0.trans (hq.mono C0.size)
  have CA := CA.trans (hq.mono CA.size)
  have Lg := Lg.keep hq
  clear hq
  go_wp2_with fail
  refine (markLstF_any _ f2.heap.size xs _ Lg).mono ?_
  rintro e w3b ⟨rfl, Lm, hb⟩
  have C0 := C0.trans (hb.mono CZ)
  have CA := CA.trans hb
  clear hb Lg
  go_wp2_with fail
  refine (heldLstF_any _ _ xs.length _ Lm).mono ?_
  rintro e w4 ⟨rfl, rfl⟩
  obtain ⟨d, _, _, _⟩ := HK.out.after C0 (by simp)
  have d0 := d 0
  have d1 := d 1
  clear d
  go_wp2_with fail
  refine (toFraction_any p q _).mono ?_
  rintro e f3 ⟨rfl, hf⟩
  have C0 := C0.trans (hf.mono C0.size)
  have CA := CA.trans (hf.mono CA.size)
  have Lm := Lm.keep hf
  clear hf d0 d1
  go_wp2_with fail
  refine (hI _).mono ?_
  rintro e w5 ⟨v2, rfl, Lh, hb⟩
  have C0 := C0.trans (hb.mono C0.size)
  have CA := CA.trans (hb.mono CA.size)
  have Lm := Lm.keep hb
  clear hb
  go_wp2_with fail
  refine (eqLstF_any _ _ _ _ xs _ Lh (Ls.keep CA)).mono ?_
  rintro e w6 ⟨rfl, hq⟩
  have C0 := C0.trans (hq.mono C0.size)
  have CA := CA.trans (hq.mono CA.size)
  have Lm := Lm.keep hq
  clear hq
  go_wp2_with fail
  refine (heldLstF_any _ _ xs.length _ Lm).mono ?_
  rintro e w7 ⟨rfl, rfl⟩
  go_wp2_with fail
  go_ret
  exact ⟨rfl, bstep (show Below w.heap.size w _ by go_grown) C0 (by simp)⟩

end Go.Proofs.Ytdoebhjapjmdcaa
