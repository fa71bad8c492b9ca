/- Fractions: which ones are plain, in the program and in the reference. -/
import Derived.Test.YtpagfikhcmeciaaNumG
namespace Go.Proofs.Ytpagfikhcmeciaa
open Go.RowKit

def okF (p q : Int) : Bool := inB q 1 1000000000 && (inB p (-1000000000) 1000000000 && decide (Int.gcd p q = 1))
theorem okF_iff {p q : Int} : okF p q = true ↔ (1 ≤ q ∧ q ≤ 1000000000) ∧ (-1000000000 ≤ p ∧ p ≤ 1000000000) ∧ Int.gcd p q = 1 := by
  simp [okF, inB_iff]

theorem qS {P : Program} {f : Nat} {args : Array Value} {w : World} {v : Value} {n : Nat} (h : Calls P f args (w.drewN n) fun e w' => e = .returned v ∧ w.drewN n = w') : Calls P f args (w.drewN n) fun e w' => e = .returned v ∧ ∃ m, w' = w.drewN m :=
  h.mono fun _ _ ⟨h1, h2⟩ => ⟨h1, n, h2.symm⟩

theorem implValid_any (p q : Int) (w : World) :
    Calls Try.prog 48 #[.agg #[.int .i64 p, .int .i64 q]] w fun e w' => e = .returned (.bool (okF p q)) ∧ Below w.heap.size w w' := by
  by_cases h1 : 1 ≤ q ∧ q ≤ 1000000000
  · by_cases h2 : -1000000000 ≤ p ∧ p ≤ 1000000000
    · have HR := hide (show okF p q = decide (Int.gcd p q = 1) by simp [okF, inB_of h1, inB_of h2])
      have e1 := inB_of h1
      have e2 := inB_of h2
      have hG := implGcd_any p q
      generalize Int.gcd p q = g at *
      go_enter Try.func48, Try.ntmps48
      go_wp2_with fail
      refine (within_any _ _ _ _).mono ?_
      rintro e w1 ⟨rfl, rfl⟩
      rw [e1]
      go_wp2_with fail
      refine (within_any _ _ _ _).mono ?_
      rintro e w1 ⟨rfl, rfl⟩
      rw [e2]
      go_wp2_with fail
      refine (hG _ (by omega) (by omega) (by omega) (by omega)).mono ?_
      rintro e w1 ⟨rfl, m, rfl⟩
      by_cases hg : g = 1
      · subst hg
        go_wp2
        go_ret
        exact ⟨by rw [HR.out]; rfl, by first | (go_grown; done) | exact belowN (by go_grown) _⟩
      · have hb : ((g : Int) == 1) = false := beq_eq_false_iff_ne.2 (by omega)
        go_wp2
        go_ret
        exact ⟨by rw [HR.out, decide_eq_false hg]; rfl, by first | (go_grown; done) | exact belowN (by go_grown) _⟩
    · have HR := hide (show okF p q = false by simp [okF, inB_no h2])
      have e1 := inB_of h1
      have e2 := inB_no h2
      go_enter Try.func48, Try.ntmps48
      go_wp2_with fail
      refine (within_any _ _ _ _).mono ?_
      rintro e w1 ⟨rfl, rfl⟩
      rw [e1]
      go_wp2_with fail
      refine (within_any _ _ _ _).mono ?_
      rintro e w1 ⟨rfl, rfl⟩
      rw [e2]
      go_wp2_with fail
      go_ret
      exact ⟨by rw [HR.out]; rfl, by first | (go_grown; done) | exact belowN (by go_grown) _⟩
  · have HR := hide (show okF p q = false by simp [okF, inB_no h1])
    have e1 := inB_no h1
    go_enter Try.func48, Try.ntmps48
    go_wp2_with fail
    refine (within_any _ _ _ _).mono ?_
    rintro e w1 ⟨rfl, rfl⟩
    rw [e1]
    go_wp2_with fail
    go_ret
    exact ⟨by rw [HR.out]; rfl, by first | (go_grown; done) | exact belowN (by go_grown) _⟩

theorem l02Ok_any (p q : Int) (w : World) :
    Calls Try.prog 52 #[.agg #[.int .i64 p, .int .i64 q]] w fun e w' => e = .returned (.bool (okF p q)) ∧ Below w.heap.size w w' := by
  by_cases h2 : -1000000000 ≤ p ∧ p ≤ 1000000000
  · have q1 : ∀ w', Calls Try.prog 53 #[.int .i64 p, .int .i64 (-1000000000), .int .i64 1000000000] w' fun e w'' => e = .returned (.bool true) ∧ w' = w'' := fun w' => by have := l00In_any p (-1000000000) 1000000000 w'; rwa [inB_of h2] at this
    by_cases h1 : 1 ≤ q ∧ q ≤ 1000000000
    · have HR := hide (show okF p q = decide (Int.gcd p q = 1) by simp [okF, inB_of h1, inB_of h2])
      have q2 : ∀ w', Calls Try.prog 53 #[.int .i64 q, .int .i64 1, .int .i64 1000000000] w' fun e w'' => e = .returned (.bool true) ∧ w' = w'' := fun w' => by have := l00In_any q 1 1000000000 w'; rwa [inB_of h1] at this
      have hsz : Int.gcd (sz p) q = Int.gcd p q := by rw [sz_nat]; simp [Int.gcd]
      have hs : 0 ≤ sz p ∧ sz p ≤ 9223372036854775807 := by have := sz_nat p; omega
      have q3 : ∀ w', Calls Try.prog 69 #[.int .i64 p] w' fun e w'' => e = .returned (.int .i64 (sz p)) ∧ w' = w'' := fun w' => specSize_any p w' (by omega) (by omega)
      have q4 : ∀ w', Calls Try.prog 68 #[.int .i64 (sz p), .int .i64 q] w' fun e w'' => e = .returned (.int .i64 (Int.gcd p q : Nat)) ∧ w' = w'' := fun w' => by have := specGcdI_any (sz p) q w' (by omega) (by omega) (by omega) (by omega); rwa [hsz] at this
      clear hsz
      generalize Int.gcd p q = g at *
      generalize sz p = sp at *
      by_cases hg : g = 1
      · subst hg
        go_enter Try.func52, Try.ntmps52
        go_wp2_with fail
        go_quiet (first | (with_reducible exact qS (q1 _)) | (with_reducible exact qS (q2 _)) | (with_reducible exact qS (q3 _)) | (with_reducible exact qS (q4 _)))
        go_wp2
        go_ret
        exact ⟨by rw [HR.out]; rfl, by first | (go_grown; done) | exact belowN (by go_grown) _⟩
      · have hb : ((g : Int) == 1) = false := beq_eq_false_iff_ne.2 (by omega)
        go_enter Try.func52, Try.ntmps52
        go_wp2_with fail
        go_quiet (first | (with_reducible exact qS (q1 _)) | (with_reducible exact qS (q2 _)) | (with_reducible exact qS (q3 _)) | (with_reducible exact qS (q4 _)))
        go_wp2
        go_ret
        exact ⟨by rw [HR.out, decide_eq_false hg]; rfl, by first | (go_grown; done) | exact belowN (by go_grown) _⟩
    · have HR := hide (show okF p q = false by simp [okF, inB_no h1])
      have q2 : ∀ w', Calls Try.prog 53 #[.int .i64 q, .int .i64 1, .int .i64 1000000000] w' fun e w'' => e = .returned (.bool false) ∧ w' = w'' := fun w' => by have := l00In_any q 1 1000000000 w'; rwa [inB_no h1] at this
      go_enter Try.func52, Try.ntmps52
      go_wp2_with fail
      go_quiet (first | (with_reducible exact qS (q1 _)) | (with_reducible exact qS (q2 _)))
      go_wp2
      go_ret
      exact ⟨by rw [HR.out]; rfl, by first | (go_grown; done) | exact belowN (by go_grown) _⟩
  · have q1 : ∀ w', Calls Try.prog 53 #[.int .i64 p, .int .i64 (-1000000000), .int .i64 1000000000] w' fun e w'' => e = .returned (.bool false) ∧ w' = w'' := fun w' => by have := l00In_any p (-1000000000) 1000000000 w'; rwa [inB_no h2] at this
    have HR := hide (show okF p q = false by simp [okF, inB_no h2])
    go_enter Try.func52, Try.ntmps52
    go_wp2_with fail
    go_quiet (first | (with_reducible exact qS (q1 _)))
    go_wp2
    go_ret
    exact ⟨by rw [HR.out]; rfl, by first | (go_grown; done) | exact belowN (by go_grown) _⟩

end Go.Proofs.Ytpagfikhcmeciaa
