/- MultipleAt: the program's and the reference's, and the law. -/
import Derived.Test.YtahbpfhbapgomaaFracL
import Derived.Test.YtahbpfhbapgomaaFracP
import Derived.Test.YtahbpfhbapgomaaEqF
import Derived.Test.YtahbpfhbapgomaaKeepF
import Derived.Test.YtahbpfhbapgomaaNumM
import Derived.Deep.RegionHeld3
namespace Go.Proofs.Ytahbpfhbapgomaa
open Go.RowKit

def mlv (p q k : Int) : Value :=
  if okF p q = true then (if 0 ≤ k ∧ k ≤ 1000000000 then .tuple #[.agg #[.int .i64 (k * p % q / (Int.gcd (k * p % q) q : Nat)), .int .i64 (q / (Int.gcd (k * p % q) q : Nat))], .int .i64 0] else .tuple #[.agg #[.int .i64 0, .int .i64 0], .int .i64 2])
  else .tuple #[.agg #[.int .i64 0, .int .i64 0], .int .i64 1]
theorem mlv_some (p q k : Int) : ∃ a b c : Int, mlv p q k = .tuple #[.agg #[.int .i64 a, .int .i64 b], .int .i64 c] := by
  unfold mlv; split
  · split <;> exact ⟨_, _, _, rfl⟩
  · exact ⟨_, _, _, rfl⟩
theorem mul_bd {k p : Int} (hk : 0 ≤ k ∧ k ≤ 1000000000) (hp : -1000000000 ≤ p ∧ p ≤ 1000000000) : -1000000000000000000 ≤ k * p ∧ k * p ≤ 1000000000000000000 := by
  have h1 : k * p ≤ k * 1000000000 := Int.mul_le_mul_of_nonneg_left hp.2 hk.1
  have h2 : k * (-1000000000) ≤ k * p := Int.mul_le_mul_of_nonneg_left hp.1 hk.1
  omega

theorem leaves_any (p q k : Int) (w : World) (hk : 0 ≤ k ∧ k ≤ 1000000000) (hp : -1000000000 ≤ p ∧ p ≤ 1000000000) (hq : 1 ≤ q ∧ q ≤ 1000000000) :
    Calls Try.prog 15 #[.agg #[.int .i64 p, .int .i64 q], .int .i64 k] w fun e w' => e = .returned (.int .i64 (k * p % q)) ∧ Below w.heap.size w w' := by
  have hb := mul_bd hk hp
  obtain ⟨x, hx⟩ : ∃ x, k * p = x := ⟨_, rfl⟩
  rw [hx] at hb ⊢
  go_enter Try.func15, Try.ntmps15
  go_wp2_with fail
  refine (floorMod_any x q _ (by omega) (by omega) (by omega) (by omega) (by omega)).mono ?_
  rintro e w1 ⟨rfl, rfl⟩
  go_wp2_with fail
  go_ret
  exact ⟨rfl, by go_grown⟩

theorem l20Rest_any (p q k : Int) (w : World) (hk : 0 ≤ k ∧ k ≤ 1000000000) (hq : 1 ≤ q ∧ q ≤ 1000000000) :
    Calls Try.prog 11 #[.agg #[.int .i64 p, .int .i64 q], .int .i64 k] w fun e w' => e = .returned (.int .i64 (k * p % q)) ∧ Below w.heap.size w w' := by
  have m1 := Int.emod_nonneg p (show q ≠ 0 by omega)
  have m2 := Int.emod_lt_of_pos p (show 0 < q by omega)
  have hb := mul_bd hk (p := p % q) (by omega)
  have hb0 := Int.mul_nonneg m1 hk.1
  have he : p % q * k % q = k * p % q := by rw [Int.mul_emod (p % q) k q, Int.emod_emod_of_dvd p (Int.dvd_refl q), ← Int.mul_emod, Int.mul_comm]
  rw [← he]
  rw [Int.mul_comm] at hb
  have q1 : ∀ w', Calls Try.prog 18 #[.int .i64 p, .int .i64 q] w' fun e w'' => e = .returned (.int .i64 (p % q)) ∧ w' = w'' := fun w' => specMod_any p q w' (by omega) (by omega)
  have q2 : ∀ w', Calls Try.prog 18 #[.int .i64 (p % q * k), .int .i64 q] w' fun e w'' => e = .returned (.int .i64 (p % q * k % q)) ∧ w' = w'' := fun w' => specMod_any (p % q * k) q w' (by omega) (by omega)
  clear he
  generalize p % q = y at *
  generalize hx : y * k = x at *
  have s1 : IntKind.i64.wrap x = x := IntWalk.i64_in _ (by omega)
  go_enter Try.func11, Try.ntmps11
  go_wp2_with fail
  go_quiet (first | (with_reducible exact qS (q1 _)) | (with_reducible exact qS (q2 _)))
  go_wp2
  go_ret
  exact ⟨rfl, belowN (by go_grown) _⟩

set_option maxRecDepth 100000 in
theorem implMultipleAt_any (p q k : Int) (w : World) :
    Calls Try.prog 6 #[.agg #[.int .i64 p, .int .i64 q], .int .i64 k] w fun e w' => e = .returned (mlv p q k) ∧ Below w.heap.size w w' := by
  have hV := implValid_any p q
  by_cases ho : okF p q = true
  · rw [ho] at hV
    obtain ⟨o1, o2, _⟩ := okF_iff.1 ho
    by_cases hk : 0 ≤ k ∧ k ≤ 1000000000
    · have HR := hide (show mlv p q k = _ by unfold mlv; rw [if_pos ho, if_pos hk])
      have e1 := inB_of hk
      have hL := fun w => leaves_any p q k w hk o2 o1
      have m1 := Int.emod_nonneg (k * p) (show q ≠ 0 by omega)
      have m2 := Int.emod_lt_of_pos (k * p) (show 0 < q by omega)
      have hP := fun w => plainOf_any (k * p % q) q w (by omega) o1
      generalize k * p % q / (Int.gcd (k * p % q) q : Nat) = x at *
      generalize q / (Int.gcd (k * p % q) q : Nat) = y at *
      generalize k * p % q = z at *
      go_enter Try.func6, Try.ntmps6
      go_wp2_with fail
      refine (hV _).mono ?_
      rintro e w1 ⟨rfl, hb1⟩
      have K0 : KF w w.heap.size (w.heap.size + 1) 24 p q ((w.alloc (.cells #[.int .i64 p, .int .i64 q] 24)).alloc (.cells #[.int .i64 0, .int .i64 0] 24)) :=
        ⟨by go_grown, by omega, by omega, by simp; omega, by simp, (Blk.new w _ _).alloc _, _, _, Blk.newAt (by simp)⟩
      have K1 := KF.next ⟨K0, trivial⟩ hb1
      have HK := hide K1
      obtain ⟨_, c1, c2, c3, c4, c5, c6⟩ := K1.sk
      clear hb1 hV K0 K1
      go_wp2_with fail
      refine (within_any _ _ _ _).mono ?_
      rintro e w2 ⟨rfl, rfl⟩
      rw [e1]
      clear c1 c2 c3 c4 c5 c6
      go_wp2_with fail
      go_region_held3 (fun w' => KF w w.heap.size (w.heap.size + 1) 24 p q w' ∧ w'.cell? ⟨w.heap.size, 0, none⟩ = some (.int .i64 p) ∧ w'.cell? ⟨w.heap.size, 1, none⟩ = some (.int .i64 q) ∧ w'.cell? ⟨w.heap.size + 1, 0, none⟩ = some (ob w' (w.heap.size + 1) 0) ∧ w'.cell? ⟨w.heap.size + 1, 1, none⟩ = some (ob w' (w.heap.size + 1) 1) ∧ w'.frozen? ⟨w.heap.size + 1, 0, none⟩ = false ∧ w'.frozen? ⟨w.heap.size + 1, 1, none⟩ = false)
        (first | assumption | exact (KF.drew_ HK.out).sk | exact (KF.next (by assumption) hb2).sk | exact (KF.next (by assumption) hb3).sk | exact (KF.store (by assumption) _ _).sk)
        (first
          | (go_at_call 15; refine (hL _).mono ?_; rintro e w2 ⟨rfl, hb2⟩)
          | (go_at_call 14; refine (hP _).mono ?_; rintro e w3 ⟨rfl, hb3⟩))
      have K3 : KF w w.heap.size (w.heap.size + 1) 24 p q w3 := KF.next ⟨KF.next ⟨KF.drew_ HK.out, trivial⟩ hb2, trivial⟩ hb3
      have z4 := K3.res (.int .i64 x) (.int .i64 y)
      go_wp2
      refine bodyPost_ret (v := .tuple #[.agg #[.int .i64 x, .int .i64 y], .int .i64 0]) (by simp [results, Try.results6, go_sem, z4]) rfl ⟨by rw [HR.out], ?_⟩
      exact ((K3.1).setCell (by simp) _).setCell (by simp) _
    · have HR := hide (show mlv p q k = _ by unfold mlv; rw [if_pos ho, if_neg hk])
      have e1 := inB_no hk
      go_enter Try.func6, Try.ntmps6
      go_wp2_with fail
      refine (hV _).mono ?_
      rintro e w1 ⟨rfl, hb1⟩
      have K0 : KF w w.heap.size (w.heap.size + 1) 24 p q ((w.alloc (.cells #[.int .i64 p, .int .i64 q] 24)).alloc (.cells #[.int .i64 0, .int .i64 0] 24)) :=
        ⟨by go_grown, by omega, by omega, by simp; omega, by simp, (Blk.new w _ _).alloc _, _, _, Blk.newAt (by simp)⟩
      have K1 := KF.next ⟨K0, trivial⟩ hb1
      obtain ⟨_, c1, c2, c3, c4, c5, c6⟩ := K1.sk
      have z4 := K1.res (.int .i64 0) (.int .i64 0)
      go_wp2_with fail
      refine (within_any _ _ _ _).mono ?_
      rintro e w2 ⟨rfl, rfl⟩
      rw [e1]
      go_wp2_with fail
      refine bodyPost_ret (v := .tuple #[.agg #[.int .i64 0, .int .i64 0], .int .i64 2]) (by simp [results, Try.results6, go_sem, z4]) rfl ⟨by rw [HR.out], ?_⟩
      exact ((K1.1).setCell (by simp) _).setCell (by simp) _
  · have HR := hide (show mlv p q k = _ by unfold mlv; rw [if_neg ho])
    have hf : okF p q = false := by simpa using ho
    rw [hf] at hV
    go_enter Try.func6, Try.ntmps6
    go_wp2_with fail
    refine (hV _).mono ?_
    rintro e w1 ⟨rfl, hb1⟩
    have K0 : KF w w.heap.size (w.heap.size + 1) 24 p q ((w.alloc (.cells #[.int .i64 p, .int .i64 q] 24)).alloc (.cells #[.int .i64 0, .int .i64 0] 24)) :=
      ⟨by go_grown, by omega, by omega, by simp; omega, by simp, (Blk.new w _ _).alloc _, _, _, Blk.newAt (by simp)⟩
    have K1 := KF.next ⟨K0, trivial⟩ hb1
    obtain ⟨_, c1, c2, c3, c4, c5, c6⟩ := K1.sk
    have z4 := K1.res (.int .i64 0) (.int .i64 0)
    go_wp2_with fail
    refine bodyPost_ret (v := .tuple #[.agg #[.int .i64 0, .int .i64 0], .int .i64 1]) (by simp [results, Try.results6, go_sem, z4]) rfl ⟨by rw [HR.out], ?_⟩
    exact ((K1.1).setCell (by simp) _).setCell (by simp) _

set_option maxRecDepth 100000 in
theorem specMultipleAt_any (p q k : Int) (w : World) :
    Calls Try.prog 4 #[.agg #[.int .i64 p, .int .i64 q], .int .i64 k] w fun e w' => e = .returned (mlv p q k) ∧ Below w.heap.size w w' := by
  have hV := l02Ok_any p q
  by_cases ho : okF p q = true
  · rw [ho] at hV
    obtain ⟨o1, o2, _⟩ := okF_iff.1 ho
    by_cases hk : 0 ≤ k ∧ k ≤ 1000000000
    · have HR := hide (show mlv p q k = _ by unfold mlv; rw [if_pos ho, if_pos hk])
      have e1 := inB_of hk
      have hL := fun w => l20Rest_any p q k w hk o1
      have m1 := Int.emod_nonneg (k * p) (show q ≠ 0 by omega)
      have m2 := Int.emod_lt_of_pos (k * p) (show 0 < q by omega)
      have hP := fun w => l02Make_any (k * p % q) q w (by omega) (by omega) (by omega)
      generalize k * p % q / (Int.gcd (k * p % q) q : Nat) = x at *
      generalize q / (Int.gcd (k * p % q) q : Nat) = y at *
      generalize k * p % q = z at *
      go_enter Try.func4, Try.ntmps4
      go_wp2_with fail
      refine (hV _).mono ?_
      rintro e w1 ⟨rfl, hb1⟩
      have K0 : KF w w.heap.size (w.heap.size + 1) 24 p q ((w.alloc (.cells #[.int .i64 p, .int .i64 q] 24)).alloc (.cells #[.int .i64 0, .int .i64 0] 24)) :=
        ⟨by go_grown, by omega, by omega, by simp; omega, by simp, (Blk.new w _ _).alloc _, _, _, Blk.newAt (by simp)⟩
      have K1 := KF.next ⟨K0, trivial⟩ hb1
      have HK := hide K1
      obtain ⟨_, c1, c2, c3, c4, c5, c6⟩ := K1.sk
      clear hb1 hV K0 K1
      go_wp2_with fail
      refine (l00In_any _ _ _ _).mono ?_
      rintro e w2 ⟨rfl, rfl⟩
      rw [e1]
      clear c1 c2 c3 c4 c5 c6
      go_wp2_with fail
      go_region_held3 (fun w' => KF w w.heap.size (w.heap.size + 1) 24 p q w' ∧ w'.cell? ⟨w.heap.size, 0, none⟩ = some (.int .i64 p) ∧ w'.cell? ⟨w.heap.size, 1, none⟩ = some (.int .i64 q) ∧ w'.cell? ⟨w.heap.size + 1, 0, none⟩ = some (ob w' (w.heap.size + 1) 0) ∧ w'.cell? ⟨w.heap.size + 1, 1, none⟩ = some (ob w' (w.heap.size + 1) 1) ∧ w'.frozen? ⟨w.heap.size + 1, 0, none⟩ = false ∧ w'.frozen? ⟨w.heap.size + 1, 1, none⟩ = false)
        (first | assumption | exact (KF.drew_ HK.out).sk | exact (KF.next (by assumption) hb2).sk | exact (KF.next (by assumption) hb3).sk | exact (KF.store (by assumption) _ _).sk)
        (first
          | (go_at_call 11; refine (hL _).mono ?_; rintro e w2 ⟨rfl, hb2⟩)
          | (go_at_call 10; refine (hP _).mono ?_; rintro e w3 ⟨rfl, hb3⟩))
      have K3 : KF w w.heap.size (w.heap.size + 1) 24 p q w3 := KF.next ⟨KF.next ⟨KF.drew_ HK.out, trivial⟩ hb2, trivial⟩ hb3
      have z4 := K3.res (.int .i64 x) (.int .i64 y)
      go_wp2
      refine bodyPost_ret (v := .tuple #[.agg #[.int .i64 x, .int .i64 y], .int .i64 0]) (by simp [results, Try.results4, go_sem, z4]) rfl ⟨by rw [HR.out], ?_⟩
      exact ((K3.1).setCell (by simp) _).setCell (by simp) _
    · have HR := hide (show mlv p q k = _ by unfold mlv; rw [if_pos ho, if_neg hk])
      have e1 := inB_no hk
      go_enter Try.func4, Try.ntmps4
      go_wp2_with fail
      refine (hV _).mono ?_
      rintro e w1 ⟨rfl, hb1⟩
      have K0 : KF w w.heap.size (w.heap.size + 1) 24 p q ((w.alloc (.cells #[.int .i64 p, .int .i64 q] 24)).alloc (.cells #[.int .i64 0, .int .i64 0] 24)) :=
        ⟨by go_grown, by omega, by omega, by simp; omega, by simp, (Blk.new w _ _).alloc _, _, _, Blk.newAt (by simp)⟩
      have K1 := KF.next ⟨K0, trivial⟩ hb1
      obtain ⟨_, c1, c2, c3, c4, c5, c6⟩ := K1.sk
      have z4 := K1.res (.int .i64 0) (.int .i64 0)
      go_wp2_with fail
      refine (l00In_any _ _ _ _).mono ?_
      rintro e w2 ⟨rfl, rfl⟩
      rw [e1]
      go_wp2_with fail
      refine bodyPost_ret (v := .tuple #[.agg #[.int .i64 0, .int .i64 0], .int .i64 2]) (by simp [results, Try.results4, go_sem, z4]) rfl ⟨by rw [HR.out], ?_⟩
      exact ((K1.1).setCell (by simp) _).setCell (by simp) _
  · have HR := hide (show mlv p q k = _ by unfold mlv; rw [if_neg ho])
    have hf : okF p q = false := by simpa using ho
    rw [hf] at hV
    go_enter Try.func4, Try.ntmps4
    go_wp2_with fail
    refine (hV _).mono ?_
    rintro e w1 ⟨rfl, hb1⟩
    have K0 : KF w w.heap.size (w.heap.size + 1) 24 p q ((w.alloc (.cells #[.int .i64 p, .int .i64 q] 24)).alloc (.cells #[.int .i64 0, .int .i64 0] 24)) :=
      ⟨by go_grown, by omega, by omega, by simp; omega, by simp, (Blk.new w _ _).alloc _, _, _, Blk.newAt (by simp)⟩
    have K1 := KF.next ⟨K0, trivial⟩ hb1
    obtain ⟨_, c1, c2, c3, c4, c5, c6⟩ := K1.sk
    have z4 := K1.res (.int .i64 0) (.int .i64 0)
    go_wp2_with fail
    refine bodyPost_ret (v := .tuple #[.agg #[.int .i64 0, .int .i64 0], .int .i64 1]) (by simp [results, Try.results4, go_sem, z4]) rfl ⟨by rw [HR.out], ?_⟩
    exact ((K1.1).setCell (by simp) _).setCell (by simp) _

theorem law_MultipleAt (p q k : Int) (w : World) :
    Calls Try.prog 3 #[.agg #[.int .i64 p, .int .i64 q], .int .i64 k] w fun e w' => e = .returned (.bool true) ∧ Below w.heap.size w w' := by
  have hS := specMultipleAt_any p q k
  have hI := implMultipleAt_any p q k
  obtain ⟨a, b, c, hv⟩ := mlv_some p q k
  rw [hv] at hS hI
  clear hv
  go_enter Try.func3, Try.ntmps3
  go_wp2_with fail
  refine (toFraction_any p q _).mono ?_
  rintro e w1 ⟨rfl, hb1⟩
  obtain ⟨c1, c2, c3, H1⟩ := (Blk.new w 23 #[.int .i64 p, .int .i64 q]).after hb1 (by simp)
  have hB1 := bstep (show Below w.heap.size w _ by go_grown) hb1 (by simp)
  clear c1 c2 hb1
  go_wp2_with fail
  refine (hS _).mono ?_
  rintro e w2 ⟨rfl, hb2⟩
  obtain ⟨c1, c2, c4, H2⟩ := H1.out.after hb2 c3
  have hB2 := bstep hB1 hb2 hB1.size
  have d0 := c1 0
  have d1 := c1 1
  clear c3 H1 hb2 hB1
  go_wp2_with fail
  refine (toFraction_any p q _).mono ?_
  rintro e w3 ⟨rfl, hb3⟩
  have N2 := hB2.size
  have hW := (Blk.new w2 24 #[.int .i64 a, .int .i64 b]).after hb3 (by simp)
  have hB3 := bstep (show Below w.heap.size w _ from hB2.alloc hB2.size _) hb3 (by simp; omega)
  clear d0 d1 c1 c2 hb3
  go_wp2_with fail
  refine (hI _).mono ?_
  rintro e w4 ⟨rfl, hb4⟩
  obtain ⟨k1, k2, k3, _⟩ := hW.2.2.2.out.after hb4 hW.2.2.1
  have k4 := k1 0
  have k5 := k1 1
  have hB4 := bstep hB3 hb4 hB3.size
  have N4 := hB4.size
  clear hb4 hB3 hW
  go_wp2_with fail
  refine (eqFraction_any a b _).mono ?_
  rintro e w5 ⟨rfl, hb5⟩
  go_wp2_with fail
  go_ret
  exact ⟨rfl, bstep (show Below w.heap.size w _ from hB4.alloc hB4.size _) hb5 (by simp; omega)⟩

end Go.Proofs.Ytahbpfhbapgomaa
