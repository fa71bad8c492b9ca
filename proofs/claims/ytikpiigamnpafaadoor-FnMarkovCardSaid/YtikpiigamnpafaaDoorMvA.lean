/- TripleAt in the program (out of Mark5, Mark6). -/
import Derived.Test.YtikpiigamnpafaaDoorMv3
import Derived.Test.YtikpiigamnpafaaDoorMvH
import Derived.Test.YtikpiigamnpafaaDoorBlk
import Derived.Deep.RegionHeld3
namespace Go.Proofs.YtikpiigamnpafaaDoor
open Go.RowKit Go.Sort Go.Shelf

/-- The triple at the end of a way; none if one on the way is too great. -/
def tAt : Int → Int → Int → List Bool → Option (Int × Int × Int)
  | X, Y, Z, [] => some (X, Y, Z)
  | X, Y, Z, r :: rs => if 3 * fst r X Y * Z - snd r X Y ≤ 1000000000 then tAt (fst r X Y) Z (3 * fst r X Y * Z - snd r X Y) rs else none

theorem grows {f s Z : Int} (hf : 1 ≤ f) (hz : 1 ≤ Z) (hs : s ≤ Z) : 2 * Z ≤ 3 * f * Z - s := by
  have : 1 * Z ≤ f * Z := Int.mul_le_mul_of_nonneg_right hf (by omega)
  rw [Int.mul_assoc]; omega

theorem rng_child {X Y Z : Int} (r : Bool) (h : Rng X Y Z) (hf : 3 * fst r X Y * Z - snd r X Y ≤ 1000000000) : Rng (fst r X Y) Z (3 * fst r X Y * Z - snd r X Y) := by
  obtain ⟨h1, h2, h3, h4⟩ := h
  cases r
  · have := grows (f := X) (s := Y) (Z := Z) h1 (by omega) h3
    simp only [fst, snd] at hf ⊢
    exact ⟨h1, by omega, by omega, hf⟩
  · have := grows (f := Y) (s := X) (Z := Z) (by omega) (by omega) (by omega)
    simp only [fst, snd] at hf ⊢
    exact ⟨by omega, h3, by omega, hf⟩

theorem tAt_drop {X Y Z : Int} {bs : List Bool} {k : Nat} (hk : k < bs.length) :
    tAt X Y Z (bs.drop k) = if 3 * fst (bs.getD k false) X Y * Z - snd (bs.getD k false) X Y ≤ 1000000000 then tAt (fst (bs.getD k false) X Y) Z (3 * fst (bs.getD k false) X Y * Z - snd (bs.getD k false) X Y) (bs.drop (k + 1)) else none := by
  have e : bs.getD k false = bs[k] := by simp [List.getD, List.getElem?_eq_getElem hk]
  rw [List.drop_eq_getElem_cons hk, tAt, e]

/-- What TripleAt returns. -/
def tRes (bs : List Bool) : Value := match tAt 1 2 5 bs with
  | some (X, Y, Z) => .tuple #[.agg #[.int .i64 X, .int .i64 Y, .int .i64 Z], .int .i64 0]
  | none => .tuple #[.agg #[.int .i64 0, .int .i64 0, .int .i64 0], .int .i64 5]

theorem rd_bools {A : Option Addr} {n : Nat} {bs : List Bool} {w : World} (h : Rd w w.heap.size 1 A n (bll bs)) : bs.length = n ∧ ∃ b o, 0 < n → (A = some ⟨b, o, none⟩ ∧ b < w.heap.size ∧ ∀ k, k < n → w.cell? ⟨b, o + k, none⟩ = some (.bool (bs.getD k false))) := by
  have hlen : bs.length = n := by have := h.1; rw [bll_len] at this; omega
  refine ⟨hlen, ?_⟩
  rcases Nat.eq_zero_or_pos n with h0 | h0
  · exact ⟨0, 0, fun h => absurd h (by omega)⟩
  · obtain ⟨b, o, e, hB, hc⟩ := h.2 h0
    exact ⟨b, o, fun _ => ⟨e, hB, fun k hk => hc k _ (by unfold bll; rw [List.getElem?_map, List.getElem?_eq_getElem (by omega)]; simp [List.getD, List.getElem?_eq_getElem (show k < bs.length by omega)])⟩⟩

set_option maxHeartbeats 2000000 in
theorem implTripleAt_any (A : Option Addr) (n c : Nat) (bs : List Bool) (w : World) (h : Rd w w.heap.size 1 A n (bll bs)) (hn : n ≤ 1048576) :
    Calls Tryd.prog 31 #[.slice A n c] w fun e w' => e = .returned (tRes bs) ∧ Below w.heap.size w w' := by
  obtain ⟨hlen, b, o, hA⟩ := rd_bools h
  have HA := hide hA
  have HL := hide hlen
  clear h hlen hA
  go_enter Tryd.func31, Tryd.ntmps31
  go_wp2
  go_loopw [10] (fun i wr => ∃ (k : Nat) (X Y Z : Int), k ≤ n ∧ i = .int .i64 k ∧ Rng X Y Z ∧ tAt 1 2 5 bs = tAt X Y Z (bs.drop k) ∧ Blk wr w.heap.size 27 #[.int .i64 0, .int .i64 0, .int .i64 0] ∧ Blk wr (w.heap.size + 1) 27 #[.int .i64 X, .int .i64 Y, .int .i64 Z] ∧ Below w.heap.size w wr) (fun i _ => n - (intOf i).toNat)
  case atStart => exact ⟨0, 1, 2, 5, by omega, rfl, by unfold Rng; omega, rfl, (Blk.new _ _ _).alloc _, Blk.newAt (by simp), by go_grown⟩
  case round =>
    obtain ⟨k, X, Y, Z, hk, rfl, hr, ht, hB0, hB1, hbel⟩ := hrel
    have HT := hide ht
    have HR := hide hr
    have H0 := hide hB0
    have H1 := hide hB1
    clear ht hr hB0 hB1
    obtain ⟨kc0, kf0, kz0, _⟩ := H0.out.after (Below.refl (w.heap.size + 1) wr) (by omega)
    obtain ⟨kc1, kf1, kz1, _⟩ := H1.out.after (Below.refl (w.heap.size + 2) wr) (by omega)
    by_cases hlt : k < n
    · obtain ⟨rfl, hB, hc⟩ := HA.out (by omega)
      have c1 : wr.cell? ⟨b, o + k, none⟩ = some (.bool (bs.getD k false)) := (hbel.cell (p := ⟨b, o + k, none⟩) hB).trans (hc k hlt)
      clear hc
      have ht := HT.out
      rw [tAt_drop (by have := HL.out; omega)] at ht
      obtain ⟨v, hv⟩ : ∃ v, bs.getD k false = v := ⟨_, rfl⟩
      rw [hv] at c1 ht
      clear HT hv
      have HT := hide ht
      clear ht
      have HD := hide (show 0 ≤ X ∧ X ≤ 1000000000 ∧ 0 ≤ Y ∧ Y ≤ 1000000000 ∧ 0 ≤ Z ∧ Z ≤ 1000000000 from by have := HR.out; unfold Rng at this; omega)
      by_cases hz : 3 * fst v X Y * Z - snd v X Y ≤ 1000000000
      · go_wp2_with fail
        refine (child_any _ _ _ _ _ HD.out).mono ?_
        rintro e w' ⟨rfl, hb⟩
        clear kc0 kf0 kc1 kf1
        obtain ⟨kc0, kf0, kz0', kb0'⟩ := H0.out.after hb kz0
        obtain ⟨kc1, kf1, kz1', kb1'⟩ := H1.out.after hb kz1
        have hl : Below w.heap.size w w' := hbel.trans (hb.mono hbel.size)
        go_wp2
        go_roundw
        case rel =>
          refine ⟨k + 1, fst v X Y, Z, _, hlt, by go_num, rng_child v HR.out hz, by rw [HT.out, if_pos hz], ?_, ?_, by go_grown⟩
          · repeat' (first | (with_reducible exact kb0'.out) | (with_reducible refine Blk.far ?_ ?_ _) | (with_reducible refine Blk.alloc ?_ _) | (simp; done) | (simp; omega))
          · repeat' (first | (with_reducible exact kb1'.out) | (with_reducible refine Blk.set3 (a := .int .i64 X) (b := .int .i64 Y) (c := .int .i64 Z) ?_) | (with_reducible refine Blk.far ?_ ?_ _) | (with_reducible refine Blk.alloc ?_ _) | (simp; done) | (simp; omega))
        case measure => simp [intOf]; omega
      · have hz' : 1000000000 < 3 * fst v X Y * Z - snd v X Y := by omega
        clear hz
        go_wp2_with fail
        refine (child_any _ _ _ _ _ HD.out).mono ?_
        rintro e w' ⟨rfl, hb⟩
        clear kc0 kf0 kc1 kf1
        obtain ⟨kc0, kf0, kz0', kb0'⟩ := H0.out.after hb kz0
        obtain ⟨kc1, kf1, kz1', kb1'⟩ := H1.out.after hb kz1
        have hl : Below w.heap.size w w' := hbel.trans (hb.mono hbel.size)
        go_wp2
        refine bodyPost_ret (v := .tuple #[.agg #[.int .i64 0, .int .i64 0, .int .i64 0], .int .i64 5]) (by simp [results, Tryd.results31, go_sem, *]) rfl ⟨?_, by go_grown⟩
        unfold tRes
        rw [HT.out, if_neg (by omega)]
    · obtain rfl : k = n := by omega
      have ht := HT.out
      rw [List.drop_of_length_le (by have := HL.out; omega), tAt] at ht
      have HT2 := hide ht
      clear ht HT
      go_wp2
      refine bodyPost_ret (v := .tuple #[.agg #[.int .i64 X, .int .i64 Y, .int .i64 Z], .int .i64 0]) (by simp [results, Tryd.results31, go_sem, *]) rfl ⟨?_, by go_grown⟩
      unfold tRes
      rw [HT2.out]

end Go.Proofs.YtikpiigamnpafaaDoor
