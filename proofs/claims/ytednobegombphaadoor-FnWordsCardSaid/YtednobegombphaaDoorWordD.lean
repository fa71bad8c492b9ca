/- ChristoffelWord: the program's and the reference's, and the law. -/
import Derived.Test.YtednobegombphaaDoorWordC
import Derived.Test.YtednobegombphaaDoorFracL
namespace Go.Proofs.YtednobegombphaaDoor
open Go.RowKit

def chv (p q : Int) : Value := if okF p q = true then (if p ≤ 0 then .tuple #[str [], .int .i64 2] else if 400 < p + q then .tuple #[str [], .int .i64 5] else .tuple #[str (chr p.toNat q.toNat), .int .i64 0]) else .tuple #[str [], .int .i64 1]
theorem chv_some (p q : Int) : ∃ (s : ByteArray) (c : Int), chv p q = .tuple #[.string s, .int .i64 c] := by
  unfold chv; split
  · split
    · exact ⟨_, _, rfl⟩
    · split <;> exact ⟨_, _, rfl⟩
  · exact ⟨_, _, rfl⟩

theorem implChristoffelWord_any (p q : Int) (w : World) :
    Calls Tryd.prog 6 #[.agg #[.int .i64 p, .int .i64 q]] w fun e w' => e = .returned (chv p q) ∧ Below w.heap.size w w' := by
  have hV := implValid_any p q
  by_cases ho : okF p q = true
  · rw [ho] at hV
    obtain ⟨⟨o1, o2⟩, ⟨o3, o4⟩, _⟩ := okF_iff.1 ho
    by_cases h0 : p ≤ 0
    · have HR := hide (show chv p q = _ by unfold chv; rw [if_pos ho, if_pos h0])
      go_enter Tryd.func6, Tryd.ntmps6
      go_wp2_with fail
      refine (hV _).mono ?_
      rintro e w1 ⟨rfl, hb1⟩
      obtain ⟨c1, c2, c3, _⟩ := (Blk.new w 25 #[.int .i64 p, .int .i64 q]).after hb1 (by simp)
      have c0 := c1 0
      have c4 := c1 1
      go_wp2_with fail
      go_returns
      exact ⟨by rw [HR.out]; first | done | rfl, bstep (by go_grown) hb1 (by simp)⟩
    · by_cases h4 : 400 < p + q
      · have HR := hide (show chv p q = _ by unfold chv; rw [if_pos ho, if_neg h0, if_pos h4])
        go_enter Tryd.func6, Tryd.ntmps6
        go_wp2_with fail
        refine (hV _).mono ?_
        rintro e w1 ⟨rfl, hb1⟩
        obtain ⟨c1, c2, c3, _⟩ := (Blk.new w 25 #[.int .i64 p, .int .i64 q]).after hb1 (by simp)
        have c0 := c1 0
        have c4 := c1 1
        go_wp2_with fail
        go_returns
        exact ⟨by rw [HR.out]; first | done | rfl, bstep (by go_grown) hb1 (by simp)⟩
      · have HR := hide (show chv p q = _ by unfold chv; rw [if_pos ho, if_neg h0, if_neg h4])
        obtain ⟨a, rfl⟩ := Int.eq_ofNat_of_zero_le (show 0 ≤ p by omega)
        obtain ⟨b, rfl⟩ := Int.eq_ofNat_of_zero_le (show 0 ≤ q by omega)
        have e := hide (show wrd a b = chr a b by unfold wrd; rw [if_neg (by omega)])
        go_enter Tryd.func6, Tryd.ntmps6
        go_wp2_with fail
        refine (hV _).mono ?_
        rintro e w1 ⟨rfl, hb1⟩
        obtain ⟨c1, c2, c3, _⟩ := (Blk.new w 25 #[.int .i64 a, .int .i64 b]).after hb1 (by simp)
        have c0 := c1 0
        have c4 := c1 1
        have hb2 := bstep (show Below w.heap.size w _ by go_grown) hb1 (by simp)
        go_wp2_with fail
        refine (wordOf_any a b _ (by omega) (by omega)).mono ?_
        rw [e.out]
        rintro e w2 ⟨rfl, hb3⟩
        go_wp2_with fail
        go_returns
        exact ⟨by rw [HR.out]; first | done | rfl, bstep hb2 hb3 hb2.size⟩
  · have hf : okF p q = false := by simpa using ho
    rw [hf] at hV
    have HR := hide (show chv p q = _ by unfold chv; rw [if_neg ho])
    go_enter Tryd.func6, Tryd.ntmps6
    go_wp2_with fail
    refine (hV _).mono ?_
    rintro e w1 ⟨rfl, hb1⟩
    go_wp2_with fail
    go_returns
    exact ⟨by rw [HR.out]; first | done | rfl, bstep (by go_grown) hb1 (by simp)⟩

theorem specChristoffelWord_any (p q : Int) (w : World) :
    Calls Tryd.prog 7 #[.agg #[.int .i64 p, .int .i64 q]] w fun e w' => e = .returned (chv p q) ∧ Below w.heap.size w w' := by
  have hV := l02Ok_any p q
  by_cases ho : okF p q = true
  · rw [ho] at hV
    obtain ⟨⟨o1, o2⟩, ⟨o3, o4⟩, _⟩ := okF_iff.1 ho
    by_cases h0 : p ≤ 0
    · have HR := hide (show chv p q = _ by unfold chv; rw [if_pos ho, if_pos h0])
      go_enter Tryd.func7, Tryd.ntmps7
      go_wp2_with fail
      refine (hV _).mono ?_
      rintro e w1 ⟨rfl, hb1⟩
      obtain ⟨c1, c2, c3, _⟩ := (Blk.new w 25 #[.int .i64 p, .int .i64 q]).after hb1 (by simp)
      have c0 := c1 0
      have c4 := c1 1
      go_wp2_with fail
      go_returns
      exact ⟨by rw [HR.out]; first | done | rfl, bstep (by go_grown) hb1 (by simp)⟩
    · by_cases h4 : 400 < p + q
      · have HR := hide (show chv p q = _ by unfold chv; rw [if_pos ho, if_neg h0, if_pos h4])
        go_enter Tryd.func7, Tryd.ntmps7
        go_wp2_with fail
        refine (hV _).mono ?_
        rintro e w1 ⟨rfl, hb1⟩
        obtain ⟨c1, c2, c3, _⟩ := (Blk.new w 25 #[.int .i64 p, .int .i64 q]).after hb1 (by simp)
        have c0 := c1 0
        have c4 := c1 1
        go_wp2_with fail
        go_returns
        exact ⟨by rw [HR.out]; first | done | rfl, bstep (by go_grown) hb1 (by simp)⟩
      · have HR := hide (show chv p q = _ by unfold chv; rw [if_pos ho, if_neg h0, if_neg h4])
        obtain ⟨a, rfl⟩ := Int.eq_ofNat_of_zero_le (show 0 ≤ p by omega)
        obtain ⟨b, rfl⟩ := Int.eq_ofNat_of_zero_le (show 0 ≤ q by omega)
        go_enter Tryd.func7, Tryd.ntmps7
        go_wp2_with fail
        refine (hV _).mono ?_
        rintro e w1 ⟨rfl, hb1⟩
        obtain ⟨c1, c2, c3, _⟩ := (Blk.new w 25 #[.int .i64 a, .int .i64 b]).after hb1 (by simp)
        have c0 := c1 0
        have c4 := c1 1
        have hb2 := bstep (show Below w.heap.size w _ by go_grown) hb1 (by simp)
        go_wp2_with fail
        refine (l23Word_any a b _ (by omega) (by omega)).mono ?_
        rintro e w2 ⟨rfl, hb3⟩
        go_wp2_with fail
        go_returns
        exact ⟨by rw [HR.out]; first | done | rfl, bstep hb2 hb3 hb2.size⟩
  · have hf : okF p q = false := by simpa using ho
    rw [hf] at hV
    have HR := hide (show chv p q = _ by unfold chv; rw [if_neg ho])
    go_enter Tryd.func7, Tryd.ntmps7
    go_wp2_with fail
    refine (hV _).mono ?_
    rintro e w1 ⟨rfl, hb1⟩
    go_wp2_with fail
    go_returns
    exact ⟨by rw [HR.out]; first | done | rfl, bstep (by go_grown) hb1 (by simp)⟩

end Go.Proofs.YtednobegombphaaDoor
