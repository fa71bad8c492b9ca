/- CentralPart: the program's and the reference's, and the law. -/
import Derived.Test.YtednobegombphaaDoorWordIsChristoffel
namespace Go.Proofs.YtednobegombphaaDoor
open Go.RowKit

def ctp (s : ByteArray) : Value := if okW s.data.toList = true then (if isC s.data.toList = true then .tuple #[.string (s.extract 1 (s.size - 1)), .int .i64 0] else .tuple #[str [], .int .i64 6]) else .tuple #[str [], .int .i64 1]
theorem ctp_some (s : ByteArray) : ∃ (t : ByteArray) (c : Int), ctp s = .tuple #[.string t, .int .i64 c] := by
  unfold ctp; split
  · split <;> exact ⟨_, _, rfl⟩
  · exact ⟨_, _, rfl⟩
theorem isC_size {l : List UInt8} (h : isC l = true) : 2 ≤ l.length := by
  unfold isC at h
  simp only [Bool.and_eq_true, decide_eq_true_eq] at h
  have := ones_le l
  have h2 : zeros l = l.length - ones l := rfl
  omega

theorem implCentralPart_any (s : ByteArray) (w : World) (hs : s.size ≤ 9223372036854775807) :
    Calls Tryd.prog 15 #[.string s] w fun e w' => e = .returned (ctp s) ∧ Below w.heap.size w w' := by
  have hlen : s.data.toList.length = s.size := by simp
  have hW := isWord_any s
  have hI := implIsChristoffel_any s
  by_cases ho : okW s.data.toList = true
  · rw [ho] at hW
    by_cases hc : isC s.data.toList = true
    · have HR := hide (show ctp s = _ by unfold ctp; rw [if_pos ho, if_pos hc])
      have h2 := isC_size hc
      rw [hlen] at h2
      rw [hc] at hI
      have hsz : (s.size : Int) - 1 = ((s.size - 1 : Nat) : Int) := by omega
      clear ho hc hlen
      go_enter Tryd.func15, Tryd.ntmps15
      go_wp2_with fail
      refine (hW _ hs).mono ?_
      rintro e w1 ⟨rfl, hb1⟩
      go_wp2_with fail
      refine (hI _ hs).mono ?_
      rintro e w2 ⟨rfl, hb2⟩
      have hB := bstep hb1 hb2 hb1.size
      go_wp2_with fail
      go_returns
      exact ⟨by rw [HR.out]; first | done | rfl, hB⟩
    · have HR := hide (show ctp s = _ by unfold ctp; rw [if_pos ho, if_neg hc])
      have hf : isC s.data.toList = false := by simpa using hc
      rw [hf] at hI
      clear ho hc hlen hf
      go_enter Tryd.func15, Tryd.ntmps15
      go_wp2_with fail
      refine (hW _ hs).mono ?_
      rintro e w1 ⟨rfl, hb1⟩
      go_wp2_with fail
      refine (hI _ hs).mono ?_
      rintro e w2 ⟨rfl, hb2⟩
      have hB := bstep hb1 hb2 hb1.size
      go_wp2_with fail
      go_returns
      exact ⟨by rw [HR.out]; first | done | rfl, hB⟩
  · have HR := hide (show ctp s = _ by unfold ctp; rw [if_neg ho])
    have hf : okW s.data.toList = false := by simpa using ho
    rw [hf] at hW
    clear ho hlen hf
    go_enter Tryd.func15, Tryd.ntmps15
    go_wp2_with fail
    refine (hW _ hs).mono ?_
    rintro e w1 ⟨rfl, hb1⟩
    go_wp2_with fail
    go_returns
    exact ⟨by rw [HR.out]; first | done | rfl, hb1⟩

theorem specCentralPart_any (s : ByteArray) (w : World) (hs : s.size ≤ 9223372036854775807) :
    Calls Tryd.prog 16 #[.string s] w fun e w' => e = .returned (ctp s) ∧ Below w.heap.size w w' := by
  have hlen : s.data.toList.length = s.size := by simp
  have hW := l23Ok_any s
  by_cases ho : okW s.data.toList = true
  · rw [ho] at hW
    have h4 : s.size ≤ 400 := by have := (okW_all ho).2.2; omega
    have hI := fun w => l23Is_any s w h4 ho
    by_cases hc : isC s.data.toList = true
    · have HR := hide (show ctp s = _ by unfold ctp; rw [if_pos ho, if_pos hc])
      have h2 := isC_size hc
      rw [hlen] at h2
      rw [hc] at hI
      have hsz : (s.size : Int) - 1 = ((s.size - 1 : Nat) : Int) := by omega
      clear ho hc hlen
      go_enter Tryd.func16, Tryd.ntmps16
      go_wp2_with fail
      refine (hW _ hs).mono ?_
      rintro e w1 ⟨rfl, rfl⟩
      go_wp2_with fail
      refine (hI _).mono ?_
      rintro e w2 ⟨rfl, hB⟩
      go_wp2_with fail
      go_returns
      exact ⟨by rw [HR.out]; first | done | rfl, hB⟩
    · have HR := hide (show ctp s = _ by unfold ctp; rw [if_pos ho, if_neg hc])
      have hf : isC s.data.toList = false := by simpa using hc
      rw [hf] at hI
      clear ho hc hlen hf
      go_enter Tryd.func16, Tryd.ntmps16
      go_wp2_with fail
      refine (hW _ hs).mono ?_
      rintro e w1 ⟨rfl, rfl⟩
      go_wp2_with fail
      refine (hI _).mono ?_
      rintro e w2 ⟨rfl, hB⟩
      go_wp2_with fail
      go_returns
      exact ⟨by rw [HR.out]; first | done | rfl, hB⟩
  · have HR := hide (show ctp s = _ by unfold ctp; rw [if_neg ho])
    have hf : okW s.data.toList = false := by simpa using ho
    rw [hf] at hW
    clear ho hlen hf
    go_enter Tryd.func16, Tryd.ntmps16
    go_wp2_with fail
    refine (hW _ hs).mono ?_
    rintro e w1 ⟨rfl, rfl⟩
    go_wp2_with fail
    go_returns
    exact ⟨by rw [HR.out]; first | done | rfl, Below.refl _ _⟩

end Go.Proofs.YtednobegombphaaDoor
