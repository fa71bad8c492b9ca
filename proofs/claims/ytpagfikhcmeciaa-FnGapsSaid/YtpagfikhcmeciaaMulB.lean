/- MultipleAt: the program's and the reference's, and the law. -/
import Derived.Test.YtpagfikhcmeciaaFracL
import Derived.Test.YtpagfikhcmeciaaOrdA
import Derived.Test.YtpagfikhcmeciaaFracP
import Derived.Test.YtpagfikhcmeciaaEqF
import Derived.Test.YtpagfikhcmeciaaKeepF
import Derived.Test.YtpagfikhcmeciaaNumM
import Derived.Deep.RegionHeld3
namespace Go.Proofs.Ytpagfikhcmeciaa
open Go.RowKit

def mlv (p q k : Int) : Value :=
  if okF p q = true then (if 0 ≤ k ∧ k ≤ 1000000000 then .tuple #[.agg #[.int .i64 (k * p % q / (Int.gcd (k * p % q) q : Nat)), .int .i64 (q / (Int.gcd (k * p % q) q : Nat))], .int .i64 0] else .tuple #[.agg #[.int .i64 0, .int .i64 0], .int .i64 2])
  else .tuple #[.agg #[.int .i64 0, .int .i64 0], .int .i64 1]
theorem mlv_some (p q k : Int) : ∃ a b c : Int, mlv p q k = .tuple #[.agg #[.int .i64 a, .int .i64 b], .int .i64 c] := by
  unfold mlv; split
  · split <;> exact ⟨_, _, _, rfl⟩
  · exact ⟨_, _, _, rfl⟩
theorem leavesM_any (p q k : Int) (w : World) (hk : 0 ≤ k ∧ k ≤ 1000000000) (hp : -1000000000 ≤ p ∧ p ≤ 1000000000) (hq : 1 ≤ q ∧ q ≤ 1000000000) :
    Calls Try.prog 51 #[.agg #[.int .i64 p, .int .i64 q], .int .i64 k] w fun e w' => e = .returned (.int .i64 (k * p % q)) ∧ Below w.heap.size w w' := by
  have hb := mul_bd hk hp
  obtain ⟨x, hx⟩ : ∃ x, k * p = x := ⟨_, rfl⟩
  rw [hx] at hb ⊢
  go_enter Try.func51, Try.ntmps51
  go_wp2_with fail
  refine (floorMod_any x q _ (by omega) (by omega) (by omega) (by omega) (by omega)).mono ?_
  rintro e w1 ⟨rfl, rfl⟩
  go_wp2_with fail
  go_ret
  exact ⟨rfl, by go_grown⟩

theorem l20RestM_any (p q k : Int) (w : World) (hk : 0 ≤ k ∧ k ≤ 1000000000) (hq : 1 ≤ q ∧ q ≤ 1000000000) :
    Calls Try.prog 55 #[.agg #[.int .i64 p, .int .i64 q], .int .i64 k] w fun e w' => e = .returned (.int .i64 (k * p % q)) ∧ Below w.heap.size w w' := by
  have m1 := Int.emod_nonneg p (show q ≠ 0 by omega)
  have m2 := Int.emod_lt_of_pos p (show 0 < q by omega)
  have hb := mul_bd hk (p := p % q) (by omega)
  have hb0 := Int.mul_nonneg m1 hk.1
  have he : p % q * k % q = k * p % q := by rw [Int.mul_emod (p % q) k q, Int.emod_emod_of_dvd p (Int.dvd_refl q), ← Int.mul_emod, Int.mul_comm]
  rw [← he]
  rw [Int.mul_comm] at hb
  have q1 : ∀ w', Calls Try.prog 70 #[.int .i64 p, .int .i64 q] w' fun e w'' => e = .returned (.int .i64 (p % q)) ∧ w' = w'' := fun w' => specMod_any p q w' (by omega) (by omega)
  have q2 : ∀ w', Calls Try.prog 70 #[.int .i64 (p % q * k), .int .i64 q] w' fun e w'' => e = .returned (.int .i64 (p % q * k % q)) ∧ w' = w'' := fun w' => specMod_any (p % q * k) q w' (by omega) (by omega)
  clear he
  generalize p % q = y at *
  generalize hx : y * k = x at *
  have s1 : IntKind.i64.wrap x = x := IntWalk.i64_in _ (by omega)
  go_enter Try.func55, Try.ntmps55
  go_wp2_with fail
  go_quiet (first | (with_reducible exact qS (q1 _)) | (with_reducible exact qS (q2 _)))
  go_wp2
  go_ret
  exact ⟨rfl, belowN (by go_grown) _⟩

set_option maxRecDepth 100000 in
theorem implMultipleAt_any (p q k : Int) (w : World) :
    Calls Try.prog 16 #[.agg #[.int .i64 p, .int .i64 q], .int .i64 k] w fun e w' => e = .returned (mlv p q k) ∧ Below w.heap.size w w' := by
  have hV := implValid_any p q
  by_cases ho : okF p q = true
  · rw [ho] at hV
    obtain ⟨o1, o2, _⟩ := okF_iff.1 ho
    by_cases hk : 0 ≤ k ∧ k ≤ 1000000000
    · have HR := hide (show mlv p q k = _ by unfold mlv; rw [if_pos ho, if_pos hk])
      have e1 := inB_of hk
      have hL := fun w => leavesM_any p q k w hk o2 o1
      have m1 := Int.emod_nonneg (k * p) (show q ≠ 0 by omega)
      have m2 := Int.emod_lt_of_pos (k * p) (show 0 < q by omega)
      have hP := fun w => plainOf_any (k * p % q) q w (by omega) o1
      generalize k * p % q / (Int.gcd (k * p % q) q : Nat) = x at *
      generalize q / (Int.gcd (k * p % q) q : Nat) = y at *
      generalize k * p % q = z at *
      go_enter Try.func16, Try.ntmps16
      go_wp2_with fail
      refine (hV _).mono ?_
      rintro e w1 ⟨rfl, hb1⟩
      have K0 : KF w w.heap.size (w.heap.size + 1) 25 p q ((w.alloc (.cells #[.int .i64 p, .int .i64 q] 25)).alloc (.cells #[.int .i64 0, .int .i64 0] 25)) :=
        ⟨by go_grown, by omega, by omega, by simp; omega, by simp, (Blk.new w _ _).alloc _, _, _, Blk.newAt (by simp)⟩
      have K1 := KF.next ⟨K0, trivial⟩ hb1
      have HK := hide K1
      obtain ⟨_, c1, c2, c3, c4, c5, c6⟩ := K1.sk
      clear hb1 hV K0 K1
      go_wp2_with fail
      refine (within_any _ _ _ _).mono ?_
      rintro e w2 ⟨rfl, rfl⟩
      rw [e1]
      clear c1 c2 c3 c4 c5 c6
      go_wp2_with fail
      go_region_held3 (fun w' => KF w w.heap.size (w.heap.size + 1) 25 p q w' ∧ w'.cell? ⟨w.heap.size, 0, none⟩ = some (.int .i64 p) ∧ w'.cell? ⟨w.heap.size, 1, none⟩ = some (.int .i64 q) ∧ w'.cell? ⟨w.heap.size + 1, 0, none⟩ = some (ob w' (w.heap.size + 1) 0) ∧ w'.cell? ⟨w.heap.size + 1, 1, none⟩ = some (ob w' (w.heap.size + 1) 1) ∧ w'.frozen? ⟨w.heap.size + 1, 0, none⟩ = false ∧ w'.frozen? ⟨w.heap.size + 1, 1, none⟩ = false)
        (first | assumption | exact (KF.drew_ HK.out).sk | exact (KF.next (by assumption) hb2).sk | exact (KF.next (by assumption) hb3).sk | exact (KF.store (by assumption) _ _).sk)
        (first
          | (go_at_call 51; refine (hL _).mono ?_; rintro e w2 ⟨rfl, hb2⟩)
          | (go_at_call 50; refine (hP _).mono ?_; rintro e w3 ⟨rfl, hb3⟩))
      have K3 : KF w w.heap.size (w.heap.size + 1) 25 p q w3 := KF.next ⟨KF.next ⟨KF.drew_ HK.out, trivial⟩ hb2, trivial⟩ hb3
      have z4 := K3.res (.int .i64 x) (.int .i64 y)
      go_wp2
      refine bodyPost_ret (v := .tuple #[.agg #[.int .i64 x, .int .i64 y], .int .i64 0]) (by simp [results, Try.results16, go_sem, z4]) rfl ⟨by rw [HR.out], ?_⟩
      exact ((K3.1).setCell (by simp) _).setCell (by simp) _
    · have HR := hide (show mlv p q k = _ by unfold mlv; rw [if_pos ho, if_neg hk])
      have e1 := inB_no hk
      go_enter Try.func16, Try.ntmps16
      go_wp2_with fail
      refine (hV _).mono ?_
      rintro e w1 ⟨rfl, hb1⟩
      have K0 : KF w w.heap.size (w.heap.size + 1) 25 p q ((w.alloc (.cells #[.int .i64 p, .int .i64 q] 25)).alloc (.cells #[.int .i64 0, .int .i64 0] 25)) :=
        ⟨by go_grown, by omega, by omega, by simp; omega, by simp, (Blk.new w _ _).alloc _, _, _, Blk.newAt (by simp)⟩
      have K1 := KF.next ⟨K0, trivial⟩ hb1
      obtain ⟨_, c1, c2, c3, c4, c5, c6⟩ := K1.sk
      have z4 := K1.res (.int .i64 0) (.int .i64 0)
      go_wp2_with fail
      refine (within_any _ _ _ _).mono ?_
      rintro e w2 ⟨rfl, rfl⟩
      rw [e1]
      go_wp2_with fail
      refine bodyPost_ret (v := .tuple #[.agg #[.int .i64 0, .int .i64 0], .int .i64 2]) (by simp [results, Try.results16, go_sem, z4]) rfl ⟨by rw [HR.out], ?_⟩
      exact ((K1.1).setCell (by simp) _).setCell (by simp) _
  · have HR := hide (show mlv p q k = _ by unfold mlv; rw [if_neg ho])
    have hf : okF p q = false := by simpa using ho
    rw [hf] at hV
    go_enter Try.func16, Try.ntmps16
    go_wp2_with fail
    refine (hV _).mono ?_
    rintro e w1 ⟨rfl, hb1⟩
    have K0 : KF w w.heap.size (w.heap.size + 1) 25 p q ((w.alloc (.cells #[.int .i64 p, .int .i64 q] 25)).alloc (.cells #[.int .i64 0, .int .i64 0] 25)) :=
      ⟨by go_grown, by omega, by omega, by simp; omega, by simp, (Blk.new w _ _).alloc _, _, _, Blk.newAt (by simp)⟩
    have K1 := KF.next ⟨K0, trivial⟩ hb1
    obtain ⟨_, c1, c2, c3, c4, c5, c6⟩ := K1.sk
    have z4 := K1.res (.int .i64 0) (.int .i64 0)
    go_wp2_with fail
    refine bodyPost_ret (v := .tuple #[.agg #[.int .i64 0, .int .i64 0], .int .i64 1]) (by simp [results, Try.results16, go_sem, z4]) rfl ⟨by rw [HR.out], ?_⟩
    exact ((K1.1).setCell (by simp) _).setCell (by simp) _

set_option maxRecDepth 100000 in
theorem specMultipleAt_any (p q k : Int) (w : World) :
    Calls Try.prog 17 #[.agg #[.int .i64 p, .int .i64 q], .int .i64 k] w fun e w' => e = .returned (mlv p q k) ∧ Below w.heap.size w w' := by
  have hV := l02Ok_any p q
  by_cases ho : okF p q = true
  · rw [ho] at hV
    obtain ⟨o1, o2, _⟩ := okF_iff.1 ho
    by_cases hk : 0 ≤ k ∧ k ≤ 1000000000
    · have HR := hide (show mlv p q k = _ by unfold mlv; rw [if_pos ho, if_pos hk])
      have e1 := inB_of hk
      have hL := fun w => l20RestM_any p q k w hk o1
      have m1 := Int.emod_nonneg (k * p) (show q ≠ 0 by omega)
      have m2 := Int.emod_lt_of_pos (k * p) (show 0 < q by omega)
      have hP := fun w => l02Make_any (k * p % q) q w (by omega) (by omega) (by omega)
      generalize k * p % q / (Int.gcd (k * p % q) q : Nat) = x at *
      generalize q / (Int.gcd (k * p % q) q : Nat) = y at *
      generalize k * p % q = z at *
      go_enter Try.func17, Try.ntmps17
      go_wp2_with fail
      refine (hV _).mono ?_
      rintro e w1 ⟨rfl, hb1⟩
      have K0 : KF w w.heap.size (w.heap.size + 1) 25 p q ((w.alloc (.cells #[.int .i64 p, .int .i64 q] 25)).alloc (.cells #[.int .i64 0, .int .i64 0] 25)) :=
        ⟨by go_grown, by omega, by omega, by simp; omega, by simp, (Blk.new w _ _).alloc _, _, _, Blk.newAt (by simp)⟩
      have K1 := KF.next ⟨K0, trivial⟩ hb1
      have HK := hide K1
      obtain ⟨_, c1, c2, c3, c4, c5, c6⟩ := K1.sk
      clear hb1 hV K0 K1
      go_wp2_with fail
      refine (l00In_any _ _ _ _).mono ?_
      rintro e w2 ⟨rfl, rfl⟩
      rw [e1]
      clear c1 c2 c3 c4 c5 c6
      go_wp2_with fail
      go_region_held3 (fun w' => KF w w.heap.size (w.heap.size + 1) 25 p q w' ∧ w'.cell? ⟨w.heap.size, 0, none⟩ = some (.int .i64 p) ∧ w'.cell? ⟨w.heap.size, 1, none⟩ = some (.int .i64 q) ∧ w'.cell? ⟨w.heap.size + 1, 0, none⟩ = some (ob w' (w.heap.size + 1) 0) ∧ w'.cell? ⟨w.heap.size + 1, 1, none⟩ = some (ob w' (w.heap.size + 1) 1) ∧ w'.frozen? ⟨w.heap.size + 1, 0, none⟩ = false ∧ w'.frozen? ⟨w.heap.size + 1, 1, none⟩ = false)
        (first | assumption | exact (KF.drew_ HK.out).sk | exact (KF.next (by assumption) hb2).sk | exact (KF.next (by assumption) hb3).sk | exact (KF.store (by assumption) _ _).sk)
        (first
          | (go_at_call 55; refine (hL _).mono ?_; rintro e w2 ⟨rfl, hb2⟩)
          | (go_at_call 54; refine (hP _).mono ?_; rintro e w3 ⟨rfl, hb3⟩))
      have K3 : KF w w.heap.size (w.heap.size + 1) 25 p q w3 := KF.next ⟨KF.next ⟨KF.drew_ HK.out, trivial⟩ hb2, trivial⟩ hb3
      have z4 := K3.res (.int .i64 x) (.int .i64 y)
      go_wp2
      refine bodyPost_ret (v := .tuple #[.agg #[.int .i64 x, .int .i64 y], .int .i64 0]) (by simp [results, Try.results17, go_sem, z4]) rfl ⟨by rw [HR.out], ?_⟩
      exact ((K3.1).setCell (by simp) _).setCell (by simp) _
    · have HR := hide (show mlv p q k = _ by unfold mlv; rw [if_pos ho, if_neg hk])
      have e1 := inB_no hk
      go_enter Try.func17, Try.ntmps17
      go_wp2_with fail
      refine (hV _).mono ?_
      rintro e w1 ⟨rfl, hb1⟩
      have K0 : KF w w.heap.size (w.heap.size + 1) 25 p q ((w.alloc (.cells #[.int .i64 p, .int .i64 q] 25)).alloc (.cells #[.int .i64 0, .int .i64 0] 25)) :=
        ⟨by go_grown, by omega, by omega, by simp; omega, by simp, (Blk.new w _ _).alloc _, _, _, Blk.newAt (by simp)⟩
      have K1 := KF.next ⟨K0, trivial⟩ hb1
      obtain ⟨_, c1, c2, c3, c4, c5, c6⟩ := K1.sk
      have z4 := K1.res (.int .i64 0) (.int .i64 0)
      go_wp2_with fail
      refine (l00In_any _ _ _ _).mono ?_
      rintro e w2 ⟨rfl, rfl⟩
      rw [e1]
      go_wp2_with fail
      refine bodyPost_ret (v := .tuple #[.agg #[.int .i64 0, .int .i64 0], .int .i64 2]) (by simp [results, Try.results17, go_sem, z4]) rfl ⟨by rw [HR.out], ?_⟩
      exact ((K1.1).setCell (by simp) _).setCell (by simp) _
  · have HR := hide (show mlv p q k = _ by unfold mlv; rw [if_neg ho])
    have hf : okF p q = false := by simpa using ho
    rw [hf] at hV
    go_enter Try.func17, Try.ntmps17
    go_wp2_with fail
    refine (hV _).mono ?_
    rintro e w1 ⟨rfl, hb1⟩
    have K0 : KF w w.heap.size (w.heap.size + 1) 25 p q ((w.alloc (.cells #[.int .i64 p, .int .i64 q] 25)).alloc (.cells #[.int .i64 0, .int .i64 0] 25)) :=
      ⟨by go_grown, by omega, by omega, by simp; omega, by simp, (Blk.new w _ _).alloc _, _, _, Blk.newAt (by simp)⟩
    have K1 := KF.next ⟨K0, trivial⟩ hb1
    obtain ⟨_, c1, c2, c3, c4, c5, c6⟩ := K1.sk
    have z4 := K1.res (.int .i64 0) (.int .i64 0)
    go_wp2_with fail
    refine bodyPost_ret (v := .tuple #[.agg #[.int .i64 0, .int .i64 0], .int .i64 1]) (by simp [results, Try.results17, go_sem, z4]) rfl ⟨by rw [HR.out], ?_⟩
    exact ((K1.1).setCell (by simp) _).setCell (by simp) _

end Go.Proofs.Ytpagfikhcmeciaa
