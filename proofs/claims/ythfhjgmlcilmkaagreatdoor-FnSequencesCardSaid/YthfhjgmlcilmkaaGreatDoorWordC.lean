/- The word of a slope and cutting sequences: the program's and the reference's. -/
import Derived.Test.YthfhjgmlcilmkaaGreatDoorFrac
import Derived.Test.YthfhjgmlcilmkaaGreatDoorWrd
import Derived.Test.YthfhjgmlcilmkaaGreatDoorStr
import Derived.Test.YthfhjgmlcilmkaaGreatDoorInts
import Derived.Laws.IdiomStrings
namespace Go.Proofs.YthfhjgmlcilmkaaGreatDoor
open Go.RowKit

def bl (l : List UInt8) : List Value := l.map fun c => Value.int .u8 (c.toNat : Int)
theorem bl_len (l : List UInt8) : (bl l).length = l.length := by simp [bl]
theorem bl_append (a b : List UInt8) : bl (a ++ b) = bl a ++ bl b := by simp [bl]
theorem one_bl (l : List UInt8) : ∀ u ∈ bl l, u.oneCell' = true := by
  intro u hu
  simp only [bl, List.mem_map] at hu
  obtain ⟨z, _, rfl⟩ := hu
  rfl
theorem info_u8 : (Tryz.prog.info? 5).map (fun i => (i.zero, i.size, i.bytes)) = some (some (.int .u8 0), 1, 1) := by kernel_rfl
/-- A row of bytes as a string. -/
theorem str_of_row {w : World} {g n cap : Nat} {l : List UInt8} (h : Row w g 5 1 n cap (bl l)) (hn : n = l.length) :
    (convert 22 9 (.slice (some ⟨g, 0, none⟩) n cap)).run Tryz.prog w = .ok (str l) w := by
  subst hn
  refine run_convert_bytes_back w 22 9 5 ⟨g, 0, none⟩ cap l Tryz.underlying22 Tryz.underlying5 Tryz.underlying9 (fun j hj => ?_)
  have e : (⟨g, 0, none⟩ : Addr).add j = ⟨g, j, none⟩ := by unfold Addr.add; split <;> simp_all
  rw [e]
  exact h.cell (by simp [bl, hj])
theorem set_fill (l : List Value) (m : Nat) (z u : Value) : (l ++ List.replicate (m + 1) z).set l.length u = (l ++ [u]) ++ List.replicate m z := by
  rw [List.set_append_right _ _ (Nat.le_refl _)]
  simp [List.replicate_succ]
theorem fill_len (l : List UInt8) (m : Nat) (z : Value) : (bl l ++ List.replicate m z).length = l.length + m := by simp [bl]
theorem fill_step {p : List UInt8} {c : UInt8} {m : Nat} : (bl p ++ List.replicate (m + 1) (Value.int .u8 0)).set p.length (Value.int .u8 (c.toNat : Int)) = bl (p ++ [c]) ++ List.replicate m (Value.int .u8 0) := by
  have := set_fill (bl p) m (Value.int .u8 0) (Value.int .u8 (c.toNat : Int))
  rw [bl_len] at this
  rw [this, bl_append]
  rfl
theorem fill_get {p : List UInt8} {m k : Nat} (h : k = p.length) : (bl p ++ List.replicate (m + 1) (Value.int .u8 0))[k]? = some (Value.int .u8 0) := by
  subst h
  rw [List.getElem?_append_right (by rw [bl_len]; exact Nat.le_refl _), bl_len, Nat.sub_self]
  rfl
theorem made_u8 (n : Nat) : madeCells (Value.int .u8 0).cells n = Array.replicate n (.int .u8 0) := by
  have e : (Value.int .u8 0).cells = #[.int .u8 0] := rfl
  rw [e]
  unfold madeCells
  apply Array.ext
  · simp
  · intro i h1 h2
    simp [Nat.mod_one]

theorem word_step {p q k : Nat} (h1 : p + q ≤ 400) (hk : k < p + q) : ∃ a b c d : Nat, (k : Int) * p = a ∧ ((k : Int) + 1) * p = b ∧ a ≤ 160000 ∧ b ≤ 160000 ∧ c ≤ 400 ∧ d ≤ 400 ∧
    (a : Int).tmod ((p : Int) + q) = c ∧ (b : Int).tmod ((p : Int) + q) = d ∧ chl p q k = if c < d then 48 else 49 := by
  have b1 : k * p ≤ 400 * 400 := Nat.mul_le_mul (by omega) (by omega)
  have b2 : (k + 1) * p ≤ 400 * 400 := Nat.mul_le_mul (by omega) (by omega)
  have m1 := Nat.mod_lt (k * p) (show 0 < p + q by omega)
  have m2 := Nat.mod_lt ((k + 1) * p) (show 0 < p + q by omega)
  refine ⟨k * p, (k + 1) * p, k * p % (p + q), (k + 1) * p % (p + q), by simp, by simp, b1, b2, by omega, by omega, ?_, ?_, rfl⟩
  · rw [Int.tmod_eq_emod_of_nonneg (Int.natCast_nonneg _)]; simp
  · rw [Int.tmod_eq_emod_of_nonneg (Int.natCast_nonneg _)]; simp

set_option maxRecDepth 100000 in
theorem wordOf_any (p q : Nat) (w : World) (h0 : 0 < p + q) (h1 : p + q ≤ 400) :
    Calls Tryz.prog 36 #[.int .i64 p, .int .i64 q] w fun e w' => e = .returned (str (wrd p q)) ∧ Below w.heap.size w w' := by
  obtain ⟨i0, hi, hz0, hz1, hz2⟩ := info_parts info_u8
  have hmk : ∀ w : World, (Instr.makeSlice 22 (.int .i64 ((p : Int) + q)) (.int .i64 ((p : Int) + q))).run Tryz.prog w = .ok (.slice (some ⟨w.heap.size, 0, none⟩) (p + q) (p + q)) (w.alloc (.cells (Array.replicate (p + q) (.int .u8 0)) 5)) := by
    intro w
    have := run_make w 22 5 i0 (.int .u8 0) Tryz.underlying22 hi hz0 .i64 .i64 ((p : Int) + q) ((p : Int) + q) (by omega) (by omega) (by rw [hz2]; omega) (by omega)
    rw [this, hz1, Nat.mul_one]
    have e : ((p : Int) + q).toNat = p + q := by omega
    rw [e, made_u8]
  have n1 : ¬ (p : Int) + q = 0 := by omega
  go_enter Tryz.func36, Tryz.ntmps36
  go_wp2
  go_loopw [15] (fun i wr => ∃ k : Nat, i = .int .i64 k ∧ k ≤ p + q ∧ Row wr w.heap.size 5 1 (p + q) (p + q) (bl ((chr p q).take k) ++ List.replicate (p + q - k) (Value.int .u8 0)) ∧ Below w.heap.size w wr) (fun i _ => p + q - (intOf i).toNat)
  case atStart =>
    refine ⟨0, rfl, by omega, ?_, by go_grown⟩
    have := Row.lit (w := w) (g := w.heap.size) (e := 5) (k := 1) (n := p + q) (cs := Array.replicate (p + q) (.int .u8 0)) rfl (by simp) (by simp [maxLen]; omega)
    simpa [bl] using this
  case round =>
    obtain ⟨k, rfl, hk, hrow, hbel⟩ := hrel
    by_cases hlt : k < p + q
    · have hkl : k = ((chr p q).take k).length := by rw [List.length_take, chr_len]; omega
      obtain ⟨m, hm⟩ : ∃ m, p + q - k = m + 1 := ⟨p + q - k - 1, by omega⟩
      rw [hm] at hrow
      have hm2 : p + q - (k + 1) = m := by omega
      have hc := hrow.cell (fill_get (m := m) hkl)
      have hf := hrow.frozen k
      obtain ⟨a, b, c, d, e1, e2, e3, e4, e5, e6, e7, e8, e9⟩ := word_step h1 hlt
      have hw1 : Row (wr.setCell ⟨w.heap.size, k, none⟩ (.int .u8 49)) w.heap.size 5 1 (p + q) (p + q) ((bl ((chr p q).take k) ++ List.replicate (m + 1) (Value.int .u8 0)).set k (.int .u8 49)) := hrow.store k _
      have hc2 : (wr.setCell ⟨w.heap.size, k, none⟩ (.int .u8 49)).cell? ⟨w.heap.size, k, none⟩ = some (.int .u8 49) := hw1.cell (by rw [List.getElem?_set_self (by rw [fill_len]; omega)])
      have hf2 := hw1.frozen k
      have hs := chr_succ hlt
      have HE := hide e9
      have HS := hide hs
      have HW := hide hrow
      have HW1 := hide hw1
      have HK := hide hkl
      clear hs hrow hw1 e9 hkl hm
      by_cases hcd : c < d
      · go_wp2
        go_quiet (fail)
        go_wp2
        go_roundw
        case rel =>
          refine ⟨k + 1, rfl, by omega, ?_, ?_⟩
          · have := HW1.out.store k (.int .u8 48)
            rw [List.set_set] at this
            rw [HS.out, hm2, ← fill_step, HE.out, if_pos hcd, ← HK.out]
            exact this
          · exact belowN ((hbel.setCell (Nat.le_refl _) _).setCell (Nat.le_refl _) _) _
        case measure => simp [intOf]; omega
      · go_wp2
        go_quiet (fail)
        go_wp2
        go_roundw
        case rel =>
          refine ⟨k + 1, rfl, by omega, ?_, ?_⟩
          · rw [HS.out, hm2, ← fill_step, HE.out, if_neg hcd, ← HK.out]
            exact HW1.out
          · exact belowN (hbel.setCell (Nat.le_refl _) _) _
        case measure => simp [intOf]; omega
    · have hk2 : k = p + q := by omega
      subst hk2
      have hr2 : Row wr w.heap.size 5 1 (p + q) (p + q) (bl (chr p q)) := by
        rw [chr_all, Nat.sub_self] at hrow
        simpa using hrow
      have hstr := str_of_row hr2 (by rw [chr_len])
      by_cases hp : p = 0
      · subst hp
        go_wp2
        go_ret
        exact ⟨rfl, hbel⟩
      · have hp0 : ((p : Int) == 0) = false := beq_eq_false_iff_ne.2 (by omega)
        have e := hide (show wrd p q = chr p q by unfold wrd; rw [if_neg hp])
        go_wp2
        go_ret
        exact ⟨by rw [e.out]; rfl, hbel⟩

set_option maxRecDepth 100000 in
theorem l23Word_any (p q : Nat) (w : World) (h0 : 0 < p + q) (h1 : p + q ≤ 400) :
    Calls Tryz.prog 44 #[.int .i64 p, .int .i64 q] w fun e w' => e = .returned (str (chr p q)) ∧ Below w.heap.size w w' := by
  obtain ⟨i0, hi, hz0, hz1, hz2⟩ := info_parts info_u8
  have n1 : ¬ (p : Int) + q = 0 := by omega
  go_enter Tryz.func44, Tryz.ntmps44
  go_wp2
  go_loopw [5, 6] (fun v i wr => ∃ (k g c : Nat), i = .int .i64 ((k : Int) + 1) ∧ k ≤ p + q ∧ v = .slice (some ⟨g, 0, none⟩) k c ∧ w.heap.size ≤ g ∧ Row wr g 5 1 k c (bl ((chr p q).take k)) ∧ Below w.heap.size w wr) (fun _ i _ => p + q + 1 - (intOf i).toNat)
  case atStart => exact ⟨0, w.heap.size, 0, rfl, by omega, rfl, by omega, Row.lit (by simp) (by rfl) (by simp [maxLen]), by go_grown⟩
  case round =>
    obtain ⟨k, g, c, rfl, hk, rfl, hg, hrow, hbel⟩ := hrel
    have sz := hbel.size
    by_cases hlt : k < p + q
    · have hkl : k = ((chr p q).take k).length := by rw [List.length_take, chr_len]; omega
      obtain ⟨a, b, c1, d, e1, e2, e3, e4, e5, e6, e7, e8, e9⟩ := word_step h1 hlt
      have hs := chr_succ hlt
      have HE := hide e9
      have HS := hide hs
      have HK := hide hkl
      have HW := hide hrow
      have hcap := hrow.cap_
      clear hs hrow e9 hkl
      by_cases hcd : c1 < d
      · have HC := hide (show chl p q k = 48 by rw [HE.out, if_pos hcd])
        go_wp2
        go_quiet (fail)
        go_wp2_with (at_builtin; refine wpList_append_lies _ rfl (.tmp 31) (.tmp 32) _ rfl 0 5 i0 _ 1 1 Tryz.underlying22 hi hz0 hz1 hz2 rfl (by omega) (.slice (some ⟨g, 0, none⟩) k c) k (bl ((chr p q).take k)) (by rfl) (((HW.out.drewN _).alloc _).own (Nat.zero_le g)) ⟨wr.heap.size, 0, none⟩ 1 1 (bl [48]) (by rfl) (by rfl) (news_new (by simp)) (one_bl _) (by omega) (by simp only [maxLen]; omega) (by omega) (Nat.zero_le _) (wr.heap.size + 1) (by simp) ?_; intro g1 cc w1 hown1 hgrow1 hat1 hlt1)
        go_roundw
        case rel =>
          have hg1 : w.heap.size ≤ g1 := by
            rcases at_old hat1 with h | h <;> omega
          refine ⟨k + 1, g1, cc, rfl, by omega, rfl, by omega, ?_, ?_⟩
          · have := (Row.of_own hown1).1
            rw [HS.out, HC.out, bl_append]; simpa using this
          · exact ((belowN hbel _).alloc (by simpa using sz) _).grown hgrow1 (by simp; omega) (fun k h => by simp [Value.ownBlock] at h; omega)
        case measure => simp [intOf]; omega
      · have HC := hide (show chl p q k = 49 by rw [HE.out, if_neg hcd])
        go_wp2
        go_quiet (fail)
        go_wp2_with (at_builtin; refine wpList_append_lies _ rfl (.tmp 34) (.tmp 35) _ rfl 0 5 i0 _ 1 1 Tryz.underlying22 hi hz0 hz1 hz2 rfl (by omega) (.slice (some ⟨g, 0, none⟩) k c) k (bl ((chr p q).take k)) (by rfl) (((HW.out.drewN _).alloc _).own (Nat.zero_le g)) ⟨wr.heap.size, 0, none⟩ 1 1 (bl [49]) (by rfl) (by rfl) (news_new (by simp)) (one_bl _) (by omega) (by simp only [maxLen]; omega) (by omega) (Nat.zero_le _) (wr.heap.size + 1) (by simp) ?_; intro g1 cc w1 hown1 hgrow1 hat1 hlt1)
        go_roundw
        case rel =>
          have hg1 : w.heap.size ≤ g1 := by
            rcases at_old hat1 with h | h <;> omega
          refine ⟨k + 1, g1, cc, rfl, by omega, rfl, by omega, ?_, ?_⟩
          · have := (Row.of_own hown1).1
            rw [HS.out, HC.out, bl_append]; simpa using this
          · exact ((belowN hbel _).alloc (by simpa using sz) _).grown hgrow1 (by simp; omega) (fun k h => by simp [Value.ownBlock] at h; omega)
        case measure => simp [intOf]; omega
    · have hk2 : k = p + q := by omega
      subst hk2
      rw [chr_all] at hrow
      have hstr := str_of_row hrow (by rw [chr_len])
      go_wp2
      go_ret
      exact ⟨rfl, hbel⟩

end Go.Proofs.YthfhjgmlcilmkaaGreatDoor
