/- IntermediatesOf: the reference's, and the law's walk. -/
import Derived.Test.YtdoebhjapjmdcaaStpH
namespace Go.Proofs.Ytdoebhjapjmdcaa
open Go.RowKit

set_option maxRecDepth 100000 in
theorem specIntermediatesOf_any (p q : Int) (w : World) :
    Calls Try.prog 19 #[.agg #[.int .i64 p, .int .i64 q]] w fun e w' => ∃ v, e = .returned (.tuple #[v, .int .i64 (itc p q)]) ∧ LstF w' w.heap.size v (itx p q) ∧ Below w.heap.size w w' := by
  have hC := l19Code_any p q
  by_cases hi0 : itc p q = 0
  · obtain ⟨ho, ht⟩ := itc_ok hi0
    obtain ⟨o1, o2, _⟩ := okF_iff.1 ho
    obtain ⟨b, rfl⟩ : ∃ b : Nat, q = b := ⟨q.toNat, by omega⟩
    rw [Int.toNat_natCast] at ht
    have hx : itx p b = inl p b (terms p b).length := by unfold itx; rw [hi0]; rfl
    have hL := fun w => l19All_any p b w ho ht
    rw [hi0] at hC
    rw [hi0, hx]
    clear hx hi0
    go_enter Try.func19, Try.ntmps19
    go_wp2_with fail
    refine (hC _).mono ?_
    rintro e w1 ⟨rfl, hb1⟩
    obtain ⟨a1, _, k3, _⟩ := (Blk.new w 27 #[.int .i64 p, .int .i64 b]).after hb1 (by simp)
    have x0 := a1 0
    have x1 := a1 1
    have hB := bstep (show Below w.heap.size w _ by go_grown) hb1 (by simp)
    clear a1 hb1
    go_wp2_with fail
    refine (hL _).mono ?_
    rintro e w2 ⟨v, rfl, hl, hb2⟩
    have hl2 := hl.base hB.size
    have HL := hide hl2
    clear hl hl2
    go_wp2_with fail
    go_returns
    exact ⟨_, rfl, HL.out, bstep hB hb2 hB.size⟩
  · have hx : itx p q = [] := by unfold itx; rw [if_neg hi0]
    rw [hx]
    generalize itc p q = c at *
    have hb : (c != 0) = true := by simp [hi0]
    clear hx
    go_enter Try.func19, Try.ntmps19
    go_wp2_with fail
    refine (hC _).mono ?_
    rintro e w1 ⟨rfl, hb1⟩
    have hB := bstep (show Below w.heap.size w _ by go_grown) hb1 (by simp)
    go_wp2_with fail
    go_returns
    exact ⟨_, rfl, LstF.nil_ _ _, hB⟩

set_option maxRecDepth 100000 in
theorem law_IntermediatesOf (p q : Int) (w : World) :
    Calls Try.prog 6 #[.agg #[.int .i64 p, .int .i64 q]] w fun e w' => e = .returned (.bool true) ∧ Below w.heap.size w w' := by
  have hS := specIntermediatesOf_any p q
  have hI := implIntermediatesOf_any p q
  generalize itx p q = xs at *
  generalize itc p q = c at *
  go_enter Try.func6, Try.ntmps6
  have HK := hide (Blk.new w 23 #[.int .i64 p, .int .i64 q])
  have C0 := (Below.refl (w.alloc (.cells #[.int .i64 p, .int .i64 q] 23)).heap.size (w.alloc (.cells #[.int .i64 p, .int .i64 q] 23)))
  go_wp2_with fail
  refine (toFraction_any p q _).mono ?_
  rintro e f1 ⟨rfl, hf⟩
  have C0 := C0.trans (hf.mono C0.size)
  clear hf
  go_wp2_with fail
  refine (hS _).mono ?_
  rintro e w1 ⟨v0, rfl, Ls, hb⟩
  have C0 := C0.trans (hb.mono C0.size)
  clear hb
  obtain ⟨d, _, _, _⟩ := HK.out.after C0 (by simp)
  have d0 := d 0
  have d1 := d 1
  clear d
  have CA := Below.refl w1.heap.size w1
  have CZ := C0.size
  go_wp2_with fail
  refine (toFraction_any p q _).mono ?_
  rintro e f2 ⟨rfl, hf⟩
  have C0 := C0.trans (hf.mono C0.size)
  have CA := CA.trans (hf.mono CA.size)
  clear hf
  clear d0 d1
  have Ls := Ls.keep CA
  clear CA
  have CA := Below.refl f2.heap.size f2
  have CZ := C0.size
  go_wp2_with fail
  refine (hI _).mono ?_
  rintro e w2 ⟨v1, rfl, Lg, hb⟩
  have C0 := C0.trans (hb.mono C0.size)
  have CA := CA.trans (hb.mono CA.size)
  clear hb
  go_wp2_with fail
  refine (eqLstF_any _ _ _ _ xs _ Lg (Ls.keep CA)).mono ?_
  rintro e w3 ⟨rfl, hq⟩
  have C0 := C0.trans (hq.mono C0.size)
  have CA := CA.trans (hq.mono CA.size)
  have Lg := Lg.keep hq
  clear hq
  go_wp2_with fail
  refine (markLstF_any _ f2.heap.size xs _ Lg).mono ?_
  rintro e w3b ⟨rfl, Lm, hb⟩
  have C0 := C0.trans (hb.mono CZ)
  have CA := CA.trans hb
  clear hb Lg
  go_wp2_with fail
  refine (heldLstF_any _ _ xs.length _ Lm).mono ?_
  rintro e w4 ⟨rfl, rfl⟩
  obtain ⟨d, _, _, _⟩ := HK.out.after C0 (by simp)
  have d0 := d 0
  have d1 := d 1
  clear d
  go_wp2_with fail
  refine (toFraction_any p q _).mono ?_
  rintro e f3 ⟨rfl, hf⟩
  have C0 := C0.trans (hf.mono C0.size)
  have CA := CA.trans (hf.mono CA.size)
  have Lm := Lm.keep hf
  clear hf d0 d1
  go_wp2_with fail
  refine (hI _).mono ?_
  rintro e w5 ⟨v2, rfl, Lh, hb⟩
  have C0 := C0.trans (hb.mono C0.size)
  have CA := CA.trans (hb.mono CA.size)
  have Lm := Lm.keep hb
  clear hb
  go_wp2_with fail
  refine (eqLstF_any _ _ _ _ xs _ Lh (Ls.keep CA)).mono ?_
  rintro e w6 ⟨rfl, hq⟩
  have C0 := C0.trans (hq.mono C0.size)
  have CA := CA.trans (hq.mono CA.size)
  have Lm := Lm.keep hq
  clear hq
  go_wp2_with fail
  refine (heldLstF_any _ _ xs.length _ Lm).mono ?_
  rintro e w7 ⟨rfl, rfl⟩
  go_wp2_with fail
  go_ret
  exact ⟨rfl, bstep (show Below w.heap.size w _ by go_grown) C0 (by simp)⟩

end Go.Proofs.Ytdoebhjapjmdcaa
