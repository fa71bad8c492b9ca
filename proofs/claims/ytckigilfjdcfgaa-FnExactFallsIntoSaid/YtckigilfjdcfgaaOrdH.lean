/- EndsOfMultiples, NextMultiple, FallsInto: the laws. -/
import Derived.Test.YtckigilfjdcfgaaOrdG
namespace Go.Proofs.Ytckigilfjdcfgaa
open Go.RowKit

set_option maxRecDepth 100000 in
theorem law_EndsOfMultiples (p q c : Int) (w : World) :
    Calls Try.prog 3 #[.agg #[.int .i64 p, .int .i64 q], .int .i64 c] w fun e w' => e = .returned (.bool true) ∧ Below w.heap.size w w' := by
  have hS := specEndsOfMultiples_any p q c
  have hI := implEndsOfMultiples_any p q c
  generalize (ema p q c) = r0 at *
  generalize (emb p q c) = r1 at *
  generalize (emc p q c) = r2 at *
  go_enter Try.func3, Try.ntmps3
  have HK := hide (Blk.new w 23 #[.int .i64 p, .int .i64 q])
  have C0 := (Below.refl (w.alloc (.cells #[.int .i64 p, .int .i64 q] 23)).heap.size (w.alloc (.cells #[.int .i64 p, .int .i64 q] 23)))
  go_wp2_with fail
  refine (toFraction_any p q _).mono ?_
  rintro e f1 ⟨rfl, hf⟩
  have C0 := C0.trans (hf.mono C0.size)
  clear hf
  go_wp2_with fail
  refine (hS _).mono ?_
  rintro e w1 ⟨rfl, hb⟩
  have C0 := C0.trans (hb.mono C0.size)
  clear hb
  obtain ⟨d, _, _, _⟩ := HK.out.after C0 (by simp)
  have d0 := d 0
  have d1 := d 1
  clear d
  go_wp2_with fail
  refine (toFraction_any p q _).mono ?_
  rintro e f2 ⟨rfl, hf⟩
  have C0 := C0.trans (hf.mono C0.size)
  clear hf d0 d1
  go_wp2_with fail
  refine (hI _).mono ?_
  rintro e w2 ⟨rfl, hb⟩
  have C0 := C0.trans (hb.mono C0.size)
  clear hb
  go_wp2_with fail
  go_ret
  exact ⟨rfl, bstep (show Below w.heap.size w _ by go_grown) C0 (by simp)⟩

set_option maxRecDepth 100000 in
theorem law_NextMultiple (p q c k : Int) (w : World) :
    Calls Try.prog 5 #[.agg #[.int .i64 p, .int .i64 q], .int .i64 c, .int .i64 k] w fun e w' => e = .returned (.bool true) ∧ Below w.heap.size w w' := by
  have hS := specNextMultiple_any p q c k
  have hI := implNextMultiple_any p q c k
  generalize (nmv p q c k) = r0 at *
  generalize (nmc p q c k) = r1 at *
  go_enter Try.func5, Try.ntmps5
  have HK := hide (Blk.new w 23 #[.int .i64 p, .int .i64 q])
  have C0 := (Below.refl (w.alloc (.cells #[.int .i64 p, .int .i64 q] 23)).heap.size (w.alloc (.cells #[.int .i64 p, .int .i64 q] 23)))
  go_wp2_with fail
  refine (toFraction_any p q _).mono ?_
  rintro e f1 ⟨rfl, hf⟩
  have C0 := C0.trans (hf.mono C0.size)
  clear hf
  go_wp2_with fail
  refine (hS _).mono ?_
  rintro e w1 ⟨rfl, hb⟩
  have C0 := C0.trans (hb.mono C0.size)
  clear hb
  obtain ⟨d, _, _, _⟩ := HK.out.after C0 (by simp)
  have d0 := d 0
  have d1 := d 1
  clear d
  go_wp2_with fail
  refine (toFraction_any p q _).mono ?_
  rintro e f2 ⟨rfl, hf⟩
  have C0 := C0.trans (hf.mono C0.size)
  clear hf d0 d1
  go_wp2_with fail
  refine (hI _).mono ?_
  rintro e w2 ⟨rfl, hb⟩
  have C0 := C0.trans (hb.mono C0.size)
  clear hb
  go_wp2_with fail
  go_ret
  exact ⟨rfl, bstep (show Below w.heap.size w _ by go_grown) C0 (by simp)⟩

set_option maxRecDepth 100000 in
theorem law_FallsInto (p q c : Int) (w : World) :
    Calls Try.prog 4 #[.agg #[.int .i64 p, .int .i64 q], .int .i64 c] w fun e w' => e = .returned (.bool true) ∧ Below w.heap.size w w' := by
  have hS := specFallsInto_any p q c
  have hI := implFallsInto_any p q c
  generalize (fiv p q c) = r0 at *
  generalize (fic p q c) = r1 at *
  go_enter Try.func4, Try.ntmps4
  have HK := hide (Blk.new w 23 #[.int .i64 p, .int .i64 q])
  have C0 := (Below.refl (w.alloc (.cells #[.int .i64 p, .int .i64 q] 23)).heap.size (w.alloc (.cells #[.int .i64 p, .int .i64 q] 23)))
  go_wp2_with fail
  refine (toFraction_any p q _).mono ?_
  rintro e f1 ⟨rfl, hf⟩
  have C0 := C0.trans (hf.mono C0.size)
  clear hf
  go_wp2_with fail
  refine (hS _).mono ?_
  rintro e w1 ⟨rfl, hb⟩
  have C0 := C0.trans (hb.mono C0.size)
  clear hb
  obtain ⟨d, _, _, _⟩ := HK.out.after C0 (by simp)
  have d0 := d 0
  have d1 := d 1
  clear d
  go_wp2_with fail
  refine (toFraction_any p q _).mono ?_
  rintro e f2 ⟨rfl, hf⟩
  have C0 := C0.trans (hf.mono C0.size)
  clear hf d0 d1
  go_wp2_with fail
  refine (hI _).mono ?_
  rintro e w2 ⟨rfl, hb⟩
  have C0 := C0.trans (hb.mono C0.size)
  clear hb
  go_wp2_with fail
  go_ret
  exact ⟨rfl, bstep (show Below w.heap.size w _ by go_grown) C0 (by simp)⟩

end Go.Proofs.Ytckigilfjdcfgaa
