/- TripleAt in the program and in the reference, and its law. -/
import Derived.Test.YtdopchoncajheaaMark4
import Derived.Test.YtdopchoncajheaaBlk
namespace Go.Proofs.Ytdopchoncajheaa
open Go.RowKit

/-- The triple at the end of a way; none if one on the way is too great. -/
def tAt : Int → Int → Int → List Bool → Option (Int × Int × Int)
  | X, Y, Z, [] => some (X, Y, Z)
  | X, Y, Z, r :: rs => if 3 * fst r X Y * Z - snd r X Y ≤ 1000000000 then tAt (fst r X Y) Z (3 * fst r X Y * Z - snd r X Y) rs else none

theorem grows {f s Z : Int} (hf : 1 ≤ f) (hz : 1 ≤ Z) (hs : s ≤ Z) : 2 * Z ≤ 3 * f * Z - s := by
  have : 1 * Z ≤ f * Z := Int.mul_le_mul_of_nonneg_right hf (by omega)
  rw [Int.mul_assoc]; omega
theorem rng_child {X Y Z : Int} (r : Bool) (h : Rng X Y Z) (hf : 3 * fst r X Y * Z - snd r X Y ≤ 1000000000) : Rng (fst r X Y) Z (3 * fst r X Y * Z - snd r X Y) := by
  obtain ⟨h1, h2, h3, h4⟩ := h
  cases r
  · have := grows (f := X) (s := Y) (Z := Z) h1 (by omega) h3
    simp only [fst, snd] at hf ⊢
    exact ⟨h1, by omega, by omega, hf⟩
  · have := grows (f := Y) (s := X) (Z := Z) (by omega) (by omega) (by omega)
    simp only [fst, snd] at hf ⊢
    exact ⟨by omega, h3, by omega, hf⟩
theorem tAt_drop {X Y Z : Int} {bs : List Bool} {k : Nat} (hk : k < bs.length) :
    tAt X Y Z (bs.drop k) = if 3 * fst (bs.getD k false) X Y * Z - snd (bs.getD k false) X Y ≤ 1000000000 then tAt (fst (bs.getD k false) X Y) Z (3 * fst (bs.getD k false) X Y * Z - snd (bs.getD k false) X Y) (bs.drop (k + 1)) else none := by
  have e : bs.getD k false = bs[k] := by simp [List.getD, List.getElem?_eq_getElem hk]
  rw [List.drop_eq_getElem_cons hk, tAt, e]

/-- Block N holds just a, b, c; of what was there before nothing has turned. -/
def Held3 (w : World) (N : Nat) (t : TypeId) (a b c : Int) (w' : World) : Prop := w.heap.size ≤ N ∧ Blk w' N t #[.int .i64 a, .int .i64 b, .int .i64 c] ∧ Below w.heap.size w w'

/-- What TripleAt returns. -/
def tRes (bs : List Bool) : Value := match tAt 1 2 5 bs with
  | some (X, Y, Z) => .tuple #[.agg #[.int .i64 X, .int .i64 Y, .int .i64 Z], .int .i64 0]
  | none => .tuple #[.agg #[.int .i64 0, .int .i64 0, .int .i64 0], .int .i64 5]

theorem rd_bools {A : Option Addr} {n : Nat} {bs : List Bool} {w : World} (h : Rd w w.heap.size 1 A n (bl bs)) : bs.length = n ∧ ∃ b o, 0 < n → (A = some ⟨b, o, none⟩ ∧ b < w.heap.size ∧ ∀ k, k < n → w.cell? ⟨b, o + k, none⟩ = some (.bool (bs.getD k false))) := by
  have hlen : bs.length = n := by have := h.1; simpa using this
  refine ⟨hlen, ?_⟩
  rcases Nat.eq_zero_or_pos n with h0 | h0
  · exact ⟨0, 0, fun h => absurd h (by omega)⟩
  · obtain ⟨b, o, e, hB, hc⟩ := h.2 h0
    exact ⟨b, o, fun _ => ⟨e, hB, fun k hk => hc k _ (by rw [List.getElem?_map, List.getElem?_eq_getElem (by omega)]; simp [List.getD, List.getElem?_eq_getElem (show k < bs.length by omega)])⟩⟩

set_option maxHeartbeats 2000000 in
theorem specTripleAt_any (A : Option Addr) (n c : Nat) (bs : List Bool) (w : World) (h : Rd w w.heap.size 1 A n (bl bs)) (hn : n ≤ 1048576) :
    Calls Try.prog 19 #[.slice A n c] w fun e w' => e = .returned (tRes bs) ∧ Below w.heap.size w w' := by
  obtain ⟨hlen, b, o, hA⟩ := rd_bools h
  have HA := hide hA
  have HL := hide hlen
  clear h hlen hA
  go_enter Try.func19, Try.ntmps19
  go_wp2
  go_loopw [5] (fun i wr => ∃ (k : Nat) (X Y Z : Int), k ≤ n ∧ i = .int .i64 k ∧ Rng X Y Z ∧ tAt 1 2 5 bs = tAt X Y Z (bs.drop k) ∧ Blk wr w.heap.size 25 #[.int .i64 0, .int .i64 0, .int .i64 0] ∧ Blk wr (w.heap.size + 1) 25 #[.int .i64 X, .int .i64 Y, .int .i64 Z] ∧ Below w.heap.size w wr) (fun i _ => n - (intOf i).toNat)
  case atStart => exact ⟨0, 1, 2, 5, by omega, rfl, by unfold Rng; omega, rfl, (Blk.new _ _ _).alloc _, Blk.newAt (by simp), by go_grown⟩
  case round =>
    obtain ⟨k, X, Y, Z, hk, rfl, hr, ht, hB0, hB1, hbel⟩ := hrel
    have HT := hide ht
    have HR := hide hr
    have H0 := hide hB0
    have H1 := hide hB1
    clear ht hr hB0 hB1
    obtain ⟨kc0, kf0, kz0, _⟩ := H0.out.after (Below.refl (w.heap.size + 1) wr) (by omega)
    obtain ⟨kc1, kf1, kz1, _⟩ := H1.out.after (Below.refl (w.heap.size + 2) wr) (by omega)
    by_cases hlt : k < n
    · obtain ⟨rfl, hB, hc⟩ := HA.out (by omega)
      have c1 : wr.cell? ⟨b, o + k, none⟩ = some (.bool (bs.getD k false)) := (hbel.cell (p := ⟨b, o + k, none⟩) hB).trans (hc k hlt)
      clear hc
      have ht := HT.out
      rw [tAt_drop (by have := HL.out; omega)] at ht
      obtain ⟨v, hv⟩ : ∃ v, bs.getD k false = v := ⟨_, rfl⟩
      rw [hv] at c1 ht
      clear HT hv
      have HT := hide ht
      clear ht
      have i0 : (0 : Int) ≤ (k : Int) := by omega
      have i1 : (k : Int) < (n : Int) := by omega
      have hB' : b < wr.heap.size := by omega
      have hS : ∀ w', Below wr.heap.size wr w' → (Below wr.heap.size wr w' ∧ w'.cell? ⟨w.heap.size + 1, 0, none⟩ = some (.int .i64 X) ∧ w'.cell? ⟨w.heap.size + 1, 1, none⟩ = some (.int .i64 Y) ∧ w'.cell? ⟨w.heap.size + 1, 2, none⟩ = some (.int .i64 Z) ∧ w'.cell? ⟨b, o + k, none⟩ = some (.bool v)) := by
        intro w' hw
        refine ⟨hw, (hw.cell (p := ⟨_, _, none⟩) kz1).trans (kc1 0), (hw.cell (p := ⟨_, _, none⟩) kz1).trans (kc1 1), (hw.cell (p := ⟨_, _, none⟩) kz1).trans (kc1 2), (hw.cell (p := ⟨b, o + k, none⟩) hB').trans c1⟩
      have HS := hide hS
      clear hS
      have HD := hide (show 0 ≤ X ∧ X ≤ 1000000000 ∧ 0 ≤ Y ∧ Y ≤ 1000000000 ∧ 0 ≤ Z ∧ Z ≤ 1000000000 from by have := HR.out; unfold Rng at this; omega)
      by_cases hz : 3 * fst v X Y * Z - snd v X Y ≤ 1000000000
      · have hd : decide (3 * fst v X Y * Z - snd v X Y ≤ 1000000000) = true := decide_eq_true hz
        have HZ := hide hz
        go_wp2_with fail
        go_region_held3 (fun w' => Below wr.heap.size wr w' ∧ w'.cell? ⟨w.heap.size + 1, 0, none⟩ = some (.int .i64 X) ∧ w'.cell? ⟨w.heap.size + 1, 1, none⟩ = some (.int .i64 Y) ∧ w'.cell? ⟨w.heap.size + 1, 2, none⟩ = some (.int .i64 Z) ∧ w'.cell? ⟨b, o + k, none⟩ = some (.bool v))
          (first | assumption | exact HS.out _ (Below.refl _ _).drew | exact HS.out _ (bnext (by assumption) hb) | exact HS.out _ (balloc (by assumption)) | exact HS.out _ (bd1 hb) | exact HS.out _ (((q4.setCell (Nat.le_refl _) _).setCell (Nat.le_refl _) _).setCell (Nat.le_refl _) _))
          (first | (go_at_call 55; (with_reducible refine (l22Child_any _ _ _ _ (wr.alloc (.cells #[.int .i64 0, .int .i64 0, .int .i64 0] 25)).drew HD.out).mono ?_); rintro e w' ⟨rfl, hb⟩; obtain ⟨q1, q2, q3, q4⟩ := newblk hb)
                 | (go_at_call 55; refine (l22Child_any _ _ _ _ _ HD.out).mono ?_; rintro e w' ⟨rfl, hb⟩))
        clear kc0 kf0 kc1 kf1
        all_goals
          first | (have hw' : Below wr.heap.size wr w' := q4) | (have hw' : Below wr.heap.size wr w' := (Below.refl _ _).drew.trans hb)
          obtain ⟨kc0, kf0, kz0', kb0'⟩ := H0.out.after hw' kz0
          obtain ⟨kc1, kf1, kz1', kb1'⟩ := H1.out.after hw' kz1
          have hl : Below w.heap.size w w' := hbel.trans (hw'.mono hbel.size)
          go_wp2
          go_roundw
          case rel =>
            refine ⟨k + 1, fst v X Y, Z, _, hlt, by go_num, rng_child v HR.out HZ.out, by rw [HT.out, if_pos HZ.out], ?_, ?_, by go_grown⟩
            · repeat' (first | (with_reducible exact kb0'.out) | (with_reducible refine Blk.far ?_ ?_ _) | (with_reducible refine Blk.alloc ?_ _) | (simp; done) | (simp; omega))
            · repeat' (first | (with_reducible exact kb1'.out) | (with_reducible refine Blk.set3 (a := .int .i64 X) (b := .int .i64 Y) (c := .int .i64 Z) ?_) | (with_reducible refine Blk.far ?_ ?_ _) | (with_reducible refine Blk.alloc ?_ _) | (simp; done) | (simp; omega))
          case measure => simp [intOf]; omega
      · have hd : decide (3 * fst v X Y * Z - snd v X Y ≤ 1000000000) = false := decide_eq_false hz
        have HZ := hide hz
        go_wp2_with fail
        go_region_held3 (fun w' => Below wr.heap.size wr w' ∧ w'.cell? ⟨w.heap.size + 1, 0, none⟩ = some (.int .i64 X) ∧ w'.cell? ⟨w.heap.size + 1, 1, none⟩ = some (.int .i64 Y) ∧ w'.cell? ⟨w.heap.size + 1, 2, none⟩ = some (.int .i64 Z) ∧ w'.cell? ⟨b, o + k, none⟩ = some (.bool v))
          (first | assumption | exact HS.out _ (Below.refl _ _).drew | exact HS.out _ (bnext (by assumption) hb) | exact HS.out _ (balloc (by assumption)) | exact HS.out _ (bd1 hb) | exact HS.out _ (((q4.setCell (Nat.le_refl _) _).setCell (Nat.le_refl _) _).setCell (Nat.le_refl _) _))
          (first | (go_at_call 55; (with_reducible refine (l22Child_any _ _ _ _ (wr.alloc (.cells #[.int .i64 0, .int .i64 0, .int .i64 0] 25)).drew HD.out).mono ?_); rintro e w' ⟨rfl, hb⟩; obtain ⟨q1, q2, q3, q4⟩ := newblk hb)
                 | (go_at_call 55; refine (l22Child_any _ _ _ _ _ HD.out).mono ?_; rintro e w' ⟨rfl, hb⟩))
        clear kc0 kf0 kc1 kf1
        all_goals
          first | (have hw' : Below wr.heap.size wr w' := q4) | (have hw' : Below wr.heap.size wr w' := (Below.refl _ _).drew.trans hb)
          obtain ⟨kc0, kf0, kz0', kb0'⟩ := H0.out.after hw' kz0
          obtain ⟨kc1, kf1, kz1', kb1'⟩ := H1.out.after hw' kz1
          have hl : Below w.heap.size w w' := hbel.trans (hw'.mono hbel.size)
          go_wp2
          refine bodyPost_ret (v := .tuple #[.agg #[.int .i64 0, .int .i64 0, .int .i64 0], .int .i64 5]) (by simp [results, Try.results19, go_sem, *]) rfl ⟨?_, by go_grown⟩
          unfold tRes
          rw [HT.out, if_neg (by have := HZ.out; omega)]
    · obtain rfl : k = n := by omega
      have ht := HT.out
      rw [List.drop_of_length_le (by have := HL.out; omega), tAt] at ht
      have HT2 := hide ht
      clear ht HT
      go_wp2
      refine bodyPost_ret (v := .tuple #[.agg #[.int .i64 X, .int .i64 Y, .int .i64 Z], .int .i64 0]) (by simp [results, Try.results19, go_sem, *]) rfl ⟨?_, by go_grown⟩
      unfold tRes
      rw [HT2.out]

end Go.Proofs.Ytdopchoncajheaa
