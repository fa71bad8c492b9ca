/- TripleAt in the program, and the law of TripleAt; the law of TripleChild. -/
import Derived.Test.YtdopchoncajheaaMark5
namespace Go.Proofs.Ytdopchoncajheaa
open Go.RowKit

set_option maxHeartbeats 2000000 in
theorem implTripleAt_any (A : Option Addr) (n c : Nat) (bs : List Bool) (w : World) (h : Rd w w.heap.size 1 A n (bl bs)) (hn : n ≤ 1048576) :
    Calls Try.prog 21 #[.slice A n c] w fun e w' => e = .returned (tRes bs) ∧ Below w.heap.size w w' := by
  obtain ⟨hlen, b, o, hA⟩ := rd_bools h
  have HA := hide hA
  have HL := hide hlen
  clear h hlen hA
  go_enter Try.func21, Try.ntmps21
  go_wp2
  go_loopw [10] (fun i wr => ∃ (k : Nat) (X Y Z : Int), k ≤ n ∧ i = .int .i64 k ∧ Rng X Y Z ∧ tAt 1 2 5 bs = tAt X Y Z (bs.drop k) ∧ Blk wr w.heap.size 25 #[.int .i64 0, .int .i64 0, .int .i64 0] ∧ Blk wr (w.heap.size + 1) 25 #[.int .i64 X, .int .i64 Y, .int .i64 Z] ∧ Below w.heap.size w wr) (fun i _ => n - (intOf i).toNat)
  case atStart => exact ⟨0, 1, 2, 5, by omega, rfl, by unfold Rng; omega, rfl, (Blk.new _ _ _).alloc _, Blk.newAt (by simp), by go_grown⟩
  case round =>
    obtain ⟨k, X, Y, Z, hk, rfl, hr, ht, hB0, hB1, hbel⟩ := hrel
    have HT := hide ht
    have HR := hide hr
    have H0 := hide hB0
    have H1 := hide hB1
    clear ht hr hB0 hB1
    obtain ⟨kc0, kf0, kz0, _⟩ := H0.out.after (Below.refl (w.heap.size + 1) wr) (by omega)
    obtain ⟨kc1, kf1, kz1, _⟩ := H1.out.after (Below.refl (w.heap.size + 2) wr) (by omega)
    by_cases hlt : k < n
    · obtain ⟨rfl, hB, hc⟩ := HA.out (by omega)
      have c1 : wr.cell? ⟨b, o + k, none⟩ = some (.bool (bs.getD k false)) := (hbel.cell (p := ⟨b, o + k, none⟩) hB).trans (hc k hlt)
      clear hc
      have ht := HT.out
      rw [tAt_drop (by have := HL.out; omega)] at ht
      obtain ⟨v, hv⟩ : ∃ v, bs.getD k false = v := ⟨_, rfl⟩
      rw [hv] at c1 ht
      clear HT hv
      have HT := hide ht
      clear ht
      have HD := hide (show 0 ≤ X ∧ X ≤ 1000000000 ∧ 0 ≤ Y ∧ Y ≤ 1000000000 ∧ 0 ≤ Z ∧ Z ≤ 1000000000 from by have := HR.out; unfold Rng at this; omega)
      by_cases hz : 3 * fst v X Y * Z - snd v X Y ≤ 1000000000
      · go_wp2_with fail
        refine (child_any _ _ _ _ _ HD.out).mono ?_
        rintro e w' ⟨rfl, hb⟩
        clear kc0 kf0 kc1 kf1
        obtain ⟨kc0, kf0, kz0', kb0'⟩ := H0.out.after hb kz0
        obtain ⟨kc1, kf1, kz1', kb1'⟩ := H1.out.after hb kz1
        have hl : Below w.heap.size w w' := hbel.trans (hb.mono hbel.size)
        go_wp2
        go_roundw
        case rel =>
          refine ⟨k + 1, fst v X Y, Z, _, hlt, by go_num, rng_child v HR.out hz, by rw [HT.out, if_pos hz], ?_, ?_, by go_grown⟩
          · repeat' (first | (with_reducible exact kb0'.out) | (with_reducible refine Blk.far ?_ ?_ _) | (with_reducible refine Blk.alloc ?_ _) | (simp; done) | (simp; omega))
          · repeat' (first | (with_reducible exact kb1'.out) | (with_reducible refine Blk.set3 (a := .int .i64 X) (b := .int .i64 Y) (c := .int .i64 Z) ?_) | (with_reducible refine Blk.far ?_ ?_ _) | (with_reducible refine Blk.alloc ?_ _) | (simp; done) | (simp; omega))
        case measure => simp [intOf]; omega
      · have hz' : 1000000000 < 3 * fst v X Y * Z - snd v X Y := by omega
        clear hz
        go_wp2_with fail
        refine (child_any _ _ _ _ _ HD.out).mono ?_
        rintro e w' ⟨rfl, hb⟩
        clear kc0 kf0 kc1 kf1
        obtain ⟨kc0, kf0, kz0', kb0'⟩ := H0.out.after hb kz0
        obtain ⟨kc1, kf1, kz1', kb1'⟩ := H1.out.after hb kz1
        have hl : Below w.heap.size w w' := hbel.trans (hb.mono hbel.size)
        go_wp2
        refine bodyPost_ret (v := .tuple #[.agg #[.int .i64 0, .int .i64 0, .int .i64 0], .int .i64 5]) (by simp [results, Try.results21, go_sem, *]) rfl ⟨?_, by go_grown⟩
        unfold tRes
        rw [HT.out, if_neg (by omega)]
    · obtain rfl : k = n := by omega
      have ht := HT.out
      rw [List.drop_of_length_le (by have := HL.out; omega), tAt] at ht
      have HT2 := hide ht
      clear ht HT
      go_wp2
      refine bodyPost_ret (v := .tuple #[.agg #[.int .i64 X, .int .i64 Y, .int .i64 Z], .int .i64 0]) (by simp [results, Try.results21, go_sem, *]) rfl ⟨?_, by go_grown⟩
      unfold tRes
      rw [HT2.out]

theorem Rd.to {w w' : World} {B k n : Nat} {A : Option Addr} {xs : List Value} (h : Rd w B k A n xs) (hb : Below B w w') (hB : B ≤ w'.heap.size) : Rd w' w'.heap.size k A n xs := (h.below hb).more hB

theorem lall {w W : World} (h : Below w.heap.size w W) (o : Obj) : Below w.heap.size w (W.alloc o) := h.alloc h.size o

theorem tRes_form (bs : List Bool) : ∃ X Y Z e : Int, tRes bs = .tuple #[.agg #[.int .i64 X, .int .i64 Y, .int .i64 Z], .int .i64 e] := by
  unfold tRes
  cases tAt 1 2 5 bs with
  | none => exact ⟨0, 0, 0, 5, rfl⟩
  | some p => exact ⟨p.1, p.2.1, p.2.2, 0, rfl⟩

set_option maxHeartbeats 1000000 in
theorem law_TripleAt (A : Option Addr) (n c : Nat) (bs : List Bool) (w : World) (h : Rd w w.heap.size 1 A n (bl bs)) (hc : n ≤ 9223372036854775807) :
    Calls Try.prog 5 #[.slice A n c] w fun e w' => e = .returned (.bool true) ∧ Below w.heap.size w w' := by
  obtain ⟨X, Y, Z, ec, hres⟩ := tRes_form bs
  have HS := hide (fun (B : Option Addr) (c : Nat) (W : World) (h : Rd W W.heap.size 1 B n (bl bs)) (hn : n ≤ 1048576) => hres ▸ specTripleAt_any B n c bs W h hn)
  have HI := hide (fun (B : Option Addr) (c : Nat) (W : World) (h : Rd W W.heap.size 1 B n (bl bs)) (hn : n ≤ 1048576) => hres ▸ implTripleAt_any B n c bs W h hn)
  clear hres
  have H := hide h
  clear h
  by_cases hn : n ≤ 1048576
  · go_enter Try.func5, Try.ntmps5
    go_wp2_with fail
    refine (toBoolS_any A n c bs _ H.out hn).mono ?_
    rintro e w1 ⟨rfl, ho1, hb1⟩
    have O1 := hide (Rd.own ho1)
    clear ho1
    go_wp2_with fail
    refine (HS.out _ _ _ O1.out hn).mono ?_
    rintro e w2 ⟨rfl, hb2⟩
    have l2 : Below w.heap.size w w2 := bstep hb1 hb2 hb1.size
    go_wp2_with fail
    have l2' : Below w.heap.size w (w2.alloc (.cells #[.int .i64 X, .int .i64 Y, .int .i64 Z] 25)) := lall l2 _
    refine (toBoolS_any A n c bs _ (H.out.to l2' l2'.size) hn).mono ?_
    rintro e w3 ⟨rfl, ho3, hb3⟩
    have l3 : Below w.heap.size w w3 := bstep l2' hb3 l2'.size
    simp only [World.size_alloc] at ho3
    have O3 := hide (Rd.own ho3)
    clear ho3
    obtain ⟨kc0, kf0, kz0, kb0⟩ := (Blk.new w2 25 #[.int .i64 X, .int .i64 Y, .int .i64 Z]).after hb3 (by simp)
    go_wp2_with fail
    refine (HI.out _ _ _ O3.out hn).mono ?_
    rintro e w4 ⟨rfl, hb4⟩
    have l4 : Below w.heap.size w w4 := bstep l3 hb4 l3.size
    clear kc0 kf0
    obtain ⟨kc0, kf0, kz4, kb4⟩ := kb0.out.after hb4 kz0
    go_wp2_with fail
    refine (eqTriple_refl X Y Z _).mono ?_
    rintro e w5 ⟨rfl, hb5⟩
    have l4' := lall l4 (.cells #[.int .i64 X, .int .i64 Y, .int .i64 Z] 25)
    have l5 : Below w.heap.size w w5 := bstep l4' hb5 l4'.size
    go_wp2_with fail
    refine (toBoolS_any A n c bs _ (H.out.to l5 l5.size) hn).mono ?_
    rintro e w6 ⟨rfl, ho6, hb6⟩
    have l6 : Below w.heap.size w w6 := bstep l5 hb6 l5.size
    have O6 := hide (Rd.own ho6)
    clear ho6
    have O3' : Rd w6 w6.heap.size 1 _ n (bl bs) := ((O3.out.to hb4 hb4.size).to ((Below.refl _ _).alloc (Nat.le_refl _) _) (by simp)).to (hb5.trans (hb6.mono hb5.size)) (Nat.le_trans hb5.size hb6.size)
    go_wp2_with fail
    refine (eqBoolS_any _ _ n _ _ bs _ O3' O6.out hc).mono ?_
    rintro e w7 ⟨rfl, hb7⟩
    go_wp2
    go_ret
    exact ⟨rfl, bstep l6 hb7 l6.size⟩
  · have hn' : 1048576 < n := by omega
    clear hn
    go_enter Try.func5, Try.ntmps5
    go_wp2
    go_ret
    exact ⟨rfl, Below.refl _ _⟩

theorem tripleChild_both (r : Bool) (X Y Z : Int) : ∃ a b c d : Int, (∀ w : World, Calls Try.prog 24 #[.agg #[.int .i64 X, .int .i64 Y, .int .i64 Z], .bool r] w fun e w' => e = .returned (.tuple #[.agg #[.int .i64 a, .int .i64 b, .int .i64 c], .int .i64 d]) ∧ Below w.heap.size w w') ∧
    (∀ w : World, Calls Try.prog 25 #[.agg #[.int .i64 X, .int .i64 Y, .int .i64 Z], .bool r] w fun e w' => e = .returned (.tuple #[.agg #[.int .i64 a, .int .i64 b, .int .i64 c], .int .i64 d]) ∧ Below w.heap.size w w') := by
  by_cases hv : vtB X Y Z = true
  · by_cases hf : 3 * fst r X Y * Z - snd r X Y ≤ 1000000000
    · exact ⟨_, _, _, _, fun w => specTripleChild_ok r X Y Z w hv hf, fun w => implTripleChild_ok r X Y Z w hv hf⟩
    · exact ⟨_, _, _, _, fun w => specTripleChild_full r X Y Z w hv (by omega), fun w => implTripleChild_full r X Y Z w hv (by omega)⟩
  · have hv' : vtB X Y Z = false := by simpa using hv
    exact ⟨_, _, _, _, fun w => specTripleChild_bad r X Y Z w hv', fun w => implTripleChild_bad r X Y Z w hv'⟩

theorem law_TripleChild (X Y Z : Int) (r : Bool) (w : World) :
    Calls Try.prog 6 #[.agg #[.int .i64 X, .int .i64 Y, .int .i64 Z], .bool r] w fun e w' => e = .returned (.bool true) ∧ Below w.heap.size w w' := by
  obtain ⟨a, b, c, d, h1, h2⟩ := tripleChild_both r X Y Z
  have H1 := hide h1
  have H2 := hide h2
  clear h1 h2
  go_enter Try.func6, Try.ntmps6
  go_wp2_with fail
  refine (toTriple_any _ _ _ _).mono ?_
  rintro e w1 ⟨rfl, hb1⟩
  have l1 : Below w.heap.size w w1 := bstep (lall (Below.refl _ _) _) hb1 (by simp)
  obtain ⟨kc, kf, kz, kb⟩ := (Blk.new w 23 #[.int .i64 X, .int .i64 Y, .int .i64 Z]).after hb1 (by simp)
  go_wp2_with fail
  refine (H1.out _).mono ?_
  rintro e w2 ⟨rfl, hb2⟩
  have l2 : Below w.heap.size w w2 := bstep l1 hb2 l1.size
  have l2' := lall l2 (.cells #[.int .i64 a, .int .i64 b, .int .i64 c] 25)
  clear kc kf
  obtain ⟨kc, kf, kz2, kb2⟩ := kb.out.after hb2 kz
  go_wp2_with fail
  refine (toTriple_any _ _ _ _).mono ?_
  rintro e w3 ⟨rfl, hb3⟩
  have l3 : Below w.heap.size w w3 := bstep l2' hb3 l2'.size
  obtain ⟨jc, jf, jz, jb⟩ := (Blk.new w2 25 #[.int .i64 a, .int .i64 b, .int .i64 c]).after hb3 (by simp)
  go_wp2_with fail
  refine (H2.out _).mono ?_
  rintro e w4 ⟨rfl, hb4⟩
  have l4 : Below w.heap.size w w4 := bstep l3 hb4 l3.size
  have l4' := lall l4 (.cells #[.int .i64 a, .int .i64 b, .int .i64 c] 25)
  clear jc jf
  obtain ⟨jc, jf, jz4, jb4⟩ := jb.out.after hb4 jz
  go_wp2_with fail
  refine (eqTriple_refl a b c _).mono ?_
  rintro e w5 ⟨rfl, hb5⟩
  go_wp2
  go_ret
  exact ⟨rfl, bstep l4' hb5 l4'.size⟩

end Go.Proofs.Ytdopchoncajheaa
