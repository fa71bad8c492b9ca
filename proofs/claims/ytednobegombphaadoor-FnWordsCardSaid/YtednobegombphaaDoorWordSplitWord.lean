/- SplitWord: the program's and the reference's, and the law. -/
import Derived.Test.YtednobegombphaaDoorWordIsChristoffel
import Derived.Test.YtednobegombphaaDoorPath2
import Derived.Test.YtednobegombphaaDoorWrd2
namespace Go.Proofs.YtednobegombphaaDoor
open Go.RowKit

def spv (l : List UInt8) : Value := if isC l = true then .tuple #[str (wrd (bds (ones l) (zeros l)).1.toNat (bds (ones l) (zeros l)).2.1.toNat), str (wrd (bds (ones l) (zeros l)).2.2.1.toNat (bds (ones l) (zeros l)).2.2.2.toNat), .int .i64 0]
  else .tuple #[str [], str [], .int .i64 1]
theorem spv_some (l : List UInt8) : ∃ (x y : ByteArray) (c : Int), spv l = .tuple #[.string x, .string y, .int .i64 c] := by
  unfold spv; split <;> exact ⟨_, _, _, rfl⟩
theorem isC_facts {l : List UInt8} (h : isC l = true) : okW l = true ∧ 0 < ones l ∧ 0 < zeros l ∧ Nat.gcd (ones l) (zeros l) = 1 ∧ chr (ones l) (zeros l) = l ∧ ones l + zeros l = l.length ∧ l.length ≤ 400 := by
  unfold isC at h
  simp only [Bool.and_eq_true, decide_eq_true_eq] at h
  obtain ⟨h1, h2, h3, h4, h5⟩ := h
  have h6 := ones_le l
  have h7 : zeros l = l.length - ones l := rfl
  exact ⟨h1, h2, h3, h4, h5, by omega, (okW_all h1).2.2⟩
theorem le4_bds {a b : Nat} (ha : 0 < a) (hb : b ≠ 0) (hg : Nat.gcd a b = 1) (ha2 : a ≤ 400) (hb2 : b ≤ 400) : le4 (bds a b) (400, 400, 400, 400) := by
  obtain ⟨p, q, r, t, e, h1, h2, _⟩ := bds_facts ha hb hg
  rw [e]; unfold le4; simp only; omega

theorem slp_isC {s : ByteArray} (h : isC s.data.toList = true) : slp s.data.toList = .tuple #[.agg #[.int .i64 (ones s.data.toList), .int .i64 (zeros s.data.toList)], .int .i64 0] := by
  obtain ⟨h1, h2, h3, h4, _⟩ := isC_facts h
  unfold slp
  rw [if_pos h1, if_neg (by omega)]
  have e : Int.gcd (ones s.data.toList) (zeros s.data.toList) = 1 := h4
  rw [e]
  simp

set_option maxRecDepth 100000 in
theorem implSplitWord_any (s : ByteArray) (w : World) (hs : s.size ≤ 9223372036854775807) :
    Calls Tryd.prog 9 #[.string s] w fun e w' => e = .returned (spv s.data.toList) ∧ Below w.heap.size w w' := by
  have hI := implIsChristoffel_any s
  by_cases hc : isC s.data.toList = true
  · rw [hc] at hI
    have hS := slopeOf_any s
    rw [slp_isC hc] at hS
    obtain ⟨_, o1, o2, o3, _, o5, o6⟩ := isC_facts hc
    have HR0 : spv s.data.toList = _ := if_pos hc
    obtain ⟨p, q, r, t, eb, s1, s2, _, _, s5, s6⟩ := bds_facts o1 (show zeros s.data.toList ≠ 0 by omega) o3
    rw [eb] at HR0
    simp only [Int.toNat_natCast] at HR0
    have HR := hide HR0
    have hP := fun w => pathTo_any (ones s.data.toList) (zeros s.data.toList) w o1 (by omega) o3 (by omega) (by omega)
    have hpos := pth_pos o1 (show zeros s.data.toList ≠ 0 by omega) o3
    have hl4 := le4_bds o1 (show zeros s.data.toList ≠ 0 by omega) o3 (by omega) (by omega)
    have hbn : bnd (pth (ones s.data.toList) (zeros s.data.toList)) true (0, 1, 1, 0) = bds (ones s.data.toList) (zeros s.data.toList) := rfl
    rw [eb] at hl4 hbn
    have hpl : p + q ≤ 400 ∧ r + t ≤ 400 := by omega
    generalize pth (ones s.data.toList) (zeros s.data.toList) = xs at *
    generalize ones s.data.toList = a at *
    generalize zeros s.data.toList = b at *
    clear HR0 hc eb o1 o2 o3 o5 o6 s1 s2
    go_enter Tryd.func9, Tryd.ntmps9
    go_wp2_with fail
    refine (hI _ hs).mono ?_
    rintro e w1 ⟨rfl, hb1⟩
    go_wp2_with fail
    refine (hS _ hs).mono ?_
    rintro e w2 ⟨rfl, hb2⟩
    have hB2 := bstep hb1 hb2 hb1.size
    have N2 := hB2.size
    go_wp2_with fail
    refine (hP _).mono ?_
    rintro e w3 ⟨v, rfl, hL, hb3⟩
    have hB3 := bstep (show Below w.heap.size w _ from hB2.alloc hB2.size _) hb3 (by simp; omega)
    obtain ⟨A, n, c, rfl, hn, hn3, hrow⟩ := hL
    have hrd := Lst.rd hn hrow
    clear hb1 hb2 hb3 hn hrow
    go_wp2_with fail
    refine (bounds_any A n c _ xs _ _ hrd hn3 hpos hbn hl4).mono ?_
    rintro e w4 ⟨rfl, rfl⟩
    simp only
    go_wp2_with fail
    refine (wordOf_any p q _ s5 hpl.1).mono ?_
    rintro e w5 ⟨rfl, hb5⟩
    have hB5 := bstep hB3 hb5 hB3.size
    go_wp2_with fail
    refine (wordOf_any r t _ s6 hpl.2).mono ?_
    rintro e w6 ⟨rfl, hb6⟩
    have hB6 := bstep hB5 hb6 hB5.size
    go_wp2_with fail
    go_returns
    exact ⟨by rw [HR.out]; first | done | rfl, hB6⟩
  · have HR := hide (show spv s.data.toList = _ from if_neg hc)
    have hf : isC s.data.toList = false := by simpa using hc
    rw [hf] at hI
    clear hc hf
    go_enter Tryd.func9, Tryd.ntmps9
    go_wp2_with fail
    refine (hI _ hs).mono ?_
    rintro e w1 ⟨rfl, hb1⟩
    go_wp2_with fail
    go_returns
    exact ⟨by rw [HR.out]; first | done | rfl, hb1⟩

theorem wrd_len {p q : Nat} (h : p = 0 → q = 1) : (wrd p q).length = p + q := by
  unfold wrd; split
  · have := h ‹_›; simp; omega
  · exact chr_len p q
theorem ba_eq {s : ByteArray} {l : List UInt8} (h : s.data.toList = l) : s = ⟨l.toArray⟩ := by
  subst h
  rcases s with ⟨⟨l⟩⟩
  rfl
theorem cut_fst {s : ByteArray} {l m : List UInt8} {n : Nat} (h : s.data.toList = l ++ m) (hn : n = l.length) : (.string (s.extract 0 n) : Value) = str l := by
  subst hn
  have e : (s.extract 0 l.length).data.toList = l := by
    have : (s.extract 0 l.length).data.toList = s.data.toList.take l.length := by simp [ByteArray.extract, ByteArray.copySlice]
    rw [this, h]; simp
  exact congrArg Value.string (ba_eq e)
theorem cut_snd {s : ByteArray} {l m : List UInt8} {n : Nat} (h : s.data.toList = l ++ m) (hn : n = l.length) : (.string (s.extract n s.size) : Value) = str m := by
  subst hn
  have e : (s.extract l.length s.size).data.toList = m := by
    have : (s.extract l.length s.size).data.toList = s.data.toList.drop l.length := by
      rcases s with ⟨⟨x⟩⟩
      simp [ByteArray.extract, ByteArray.copySlice, ByteArray.size]
      exact List.take_of_length_le (by simp)
    rw [this, h]; simp
  exact congrArg Value.string (ba_eq e)

set_option maxRecDepth 100000 in
set_option maxHeartbeats 1000000 in
theorem specSplitWord_any (s : ByteArray) (w : World) (hs : s.size ≤ 9223372036854775807) :
    Calls Tryd.prog 10 #[.string s] w fun e w' => e = .returned (spv s.data.toList) ∧ Below w.heap.size w w' := by
  have hlen : s.data.toList.length = s.size := by simp
  have hK := l23Ok_any s
  by_cases ho : okW s.data.toList = true
  · rw [ho] at hK
    have h4 : s.size ≤ 400 := by have := (okW_all ho).2.2; omega
    have hI := fun w => l23Is_any s w h4 ho
    by_cases hc : isC s.data.toList = true
    · rw [hc] at hI
      obtain ⟨_, o1, o2, o3, o4, o5, o6⟩ := isC_facts hc
      have HR0 : spv s.data.toList = _ := if_pos hc
      obtain ⟨p, q, r, t, eb, s1, s2, s3, s4, s5, s6⟩ := bds_facts o1 (show zeros s.data.toList ≠ 0 by omega) o3
      rw [eb] at HR0
      simp only [Int.toNat_natCast] at HR0
      have HR := hide HR0
      have hsp := chr_split s3 s4 s5 s6
      rw [s1, s2, o4] at hsp
      have hwl := wrd_len s4
      by_cases h2 : s.size = 2
      · have ho1 : ones s.data.toList = 1 := by omega
        have hz1 : zeros s.data.toList = 1 := by omega
        rw [ho1, hz1] at eb
        have eb2 : bds 1 1 = (((0 : Int), (1 : Int), (1 : Int), (0 : Int)) : Int × Int × Int × Int) := by unfold bds pth; rw [if_pos ⟨rfl, rfl⟩]; rfl
        rw [eb2] at eb
        have e1 := Prod.mk.inj eb
        have e2 := Prod.mk.inj e1.2
        have e3 := Prod.mk.inj e2.2
        obtain rfl : p = 0 := by have := e1.1; omega
        obtain rfl : q = 1 := by have := e2.1; omega
        obtain rfl : r = 1 := by have := e3.1; omega
        obtain rfl : t = 0 := by have := e3.2; omega
        have b2 : ((s.size : Int) == 2) = true := by simp [h2]
        clear HR0 hsp hwl e1 e2 e3 eb eb2 s1 s2 s3 s4 s5 s6 o1 o2 o3 o4 o5 o6 ho1 hz1 hc ho hlen
        go_enter Tryd.func10, Tryd.ntmps10
        go_wp2_with fail
        refine (hK _ hs).mono ?_
        rintro e w1 ⟨rfl, rfl⟩
        go_wp2_with fail
        refine (hI _).mono ?_
        rintro e w2 ⟨rfl, hB⟩
        go_wp2_with fail
        go_returns
        exact ⟨by rw [HR.out]; rfl, hB⟩
      · have b2 : ((s.size : Int) == 2) = false := beq_eq_false_iff_ne.2 (by omega)
        have hO := l23Ones_any s
        have hM := l02Make_any (ones s.data.toList) (zeros s.data.toList)
        have hP := fun w => l05Path_any (ones s.data.toList) (zeros s.data.toList) w o1 (by omega) o3 (by omega) (by omega)
        have e9 : Int.gcd (ones s.data.toList) (zeros s.data.toList) = 1 := o3
        rw [e9] at hM
        simp only [Int.natCast_one, Int.ediv_one] at hM
        have hpos := pth_pos o1 (show zeros s.data.toList ≠ 0 by omega) o3
        have hl4 := le4_bds o1 (show zeros s.data.toList ≠ 0 by omega) o3 (by omega) (by omega)
        have hbn : bnd (pth (ones s.data.toList) (zeros s.data.toList)) true (0, 1, 1, 0) = bds (ones s.data.toList) (zeros s.data.toList) := rfl
        rw [eb] at hl4 hbn
        have hF := hide (cut_fst hsp hwl.symm)
        have hG := hide (cut_snd hsp hwl.symm)
        have hpq : p + q ≤ s.size := by omega
        have hsub : (s.size : Int) - ones s.data.toList = zeros s.data.toList := by omega
        generalize pth (ones s.data.toList) (zeros s.data.toList) = xs at *
        generalize ones s.data.toList = a at *
        generalize zeros s.data.toList = b at *
        have hb400 : 0 < b ∧ b ≤ 400 ∧ a ≤ 400 := by omega
        clear HR0 hc eb o1 o2 o3 o4 o5 o6 s1 s2 s3 s4 s5 s6 hsp hwl ho hlen e9 h2
        go_enter Tryd.func10, Tryd.ntmps10
        go_wp2_with fail
        refine (hK _ hs).mono ?_
        rintro e w1 ⟨rfl, rfl⟩
        go_wp2_with fail
        refine (hI _).mono ?_
        rintro e w2 ⟨rfl, hB2⟩
        go_wp2_with fail
        refine (hO _ hs).mono ?_
        rintro e w3 ⟨rfl, rfl⟩
        go_wp2_with fail
        refine (hO _ hs).mono ?_
        rintro e w3 ⟨rfl, rfl⟩
        go_wp2_with fail
        refine (hM _ (by omega) (by omega) (by omega)).mono ?_
        rintro e w3 ⟨rfl, hb3⟩
        have hB3 := bstep hB2 hb3 hB2.size
        go_wp2_with fail
        refine (hP _).mono ?_
        rintro e w4 ⟨v, rfl, hL, hb4⟩
        have hB4 := bstep hB3 hb4 hB3.size
        obtain ⟨A, n, c, rfl, hn, hn3, hrow⟩ := hL
        have hrd := Lst.rd hn hrow
        clear hb3 hb4 hn hrow hB2 hB3
        go_wp2_with fail
        refine (l05Bounds_any A n c xs _ _ hrd hn3 hpos hbn hl4).mono ?_
        rintro e w5 ⟨rfl, hb5⟩
        have hB5 := bstep hB4 hb5 hB4.size
        have N5 := hB5.size
        simp only
        go_wp2_with fail
        have i1 : (p : Int) + q ≤ s.size := by omega
        have i0 : 0 ≤ (p : Int) + q := by omega
        go_quiet (fail)
        go_wp2_with fail
        go_returns
        exact ⟨by rw [HR.out, ← hF.out, ← hG.out]; first | done | rfl, belowN (hB5.alloc hB5.size _) _⟩
    · have HR := hide (show spv s.data.toList = _ from if_neg hc)
      have hf : isC s.data.toList = false := by simpa using hc
      rw [hf] at hI
      clear hc hf ho hlen
      go_enter Tryd.func10, Tryd.ntmps10
      go_wp2_with fail
      refine (hK _ hs).mono ?_
      rintro e w1 ⟨rfl, rfl⟩
      go_wp2_with fail
      refine (hI _).mono ?_
      rintro e w2 ⟨rfl, hB⟩
      go_wp2_with fail
      go_returns
      exact ⟨by rw [HR.out]; first | done | rfl, hB⟩
  · have hf : okW s.data.toList = false := by simpa using ho
    have HR := hide (show spv s.data.toList = _ from if_neg (by rw [isC_bad hf]; decide))
    rw [hf] at hK
    clear ho hf hlen
    go_enter Tryd.func10, Tryd.ntmps10
    go_wp2_with fail
    refine (hK _ hs).mono ?_
    rintro e w1 ⟨rfl, rfl⟩
    go_wp2_with fail
    go_returns
    exact ⟨by rw [HR.out]; first | done | rfl, Below.refl _ _⟩

end Go.Proofs.YtednobegombphaaDoor
