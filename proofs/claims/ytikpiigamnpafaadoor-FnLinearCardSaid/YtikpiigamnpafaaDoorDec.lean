/- Decimal forms of numbers: the reference's digits; the library's strconv.FormatInt. -/
import Derived.Test.YtikpiigamnpafaaDoorStr
import Derived.Test.YtikpiigamnpafaaDoorInts
import Derived.Test.YtikpiigamnpafaaDoorOwn
import Derived.Laws.IdiomStrings
import Derived.Lib.ItoaNum
namespace Go.Proofs.YtikpiigamnpafaaDoor
open Go.RowKit

def bl (l : List UInt8) : List Value := l.map fun c => Value.int .u8 (c.toNat : Int)
theorem bl_len (l : List UInt8) : (bl l).length = l.length := by simp [bl]
theorem bl_append (a b : List UInt8) : bl (a ++ b) = bl a ++ bl b := by simp [bl]
theorem one_bl (l : List UInt8) : ∀ u ∈ bl l, u.oneCell' = true := by
  intro u hu
  simp only [bl, List.mem_map] at hu
  obtain ⟨z, _, rfl⟩ := hu
  rfl
theorem info_u8 : (Tryd.prog.info? 5).map (fun i => (i.zero, i.size, i.bytes)) = some (some (.int .u8 0), 1, 1) := by kernel_rfl
/-- A row of bytes as a string. -/
theorem str_of_row {w : World} {g n cap : Nat} {l : List UInt8} (h : Row w g 5 1 n cap (bl l)) (hn : n = l.length) :
    (convert 30 9 (.slice (some ⟨g, 0, none⟩) n cap)).run Tryd.prog w = .ok (str l) w := by
  subst hn
  refine run_convert_bytes_back w 30 9 5 ⟨g, 0, none⟩ cap l Tryd.underlying30 Tryd.underlying5 Tryd.underlying9 (fun j hj => ?_)
  have e : (⟨g, 0, none⟩ : Addr).add j = ⟨g, j, none⟩ := by unfold Addr.add; split <;> simp_all
  rw [e]
  exact h.cell (by simp [bl, hj])
def nd (u : Nat) : List UInt8 := if u = 0 then [] else Lib.decDigits u
theorem nd_step {u : Nat} (h : 0 < u) : nd u = nd (u / 10) ++ [UInt8.ofNat (48 + u % 10)] := by
  unfold nd
  rw [if_neg (by omega)]
  rw [Lib.decDigits]
  by_cases h1 : u < 10
  · rw [dif_pos h1, if_pos (by omega), Nat.mod_eq_of_lt h1]; rfl
  · rw [dif_neg h1, if_neg (by omega)]
theorem nd_len : ∀ (k u : Nat), u < 10 ^ k → (nd u).length ≤ k
  | 0, u, h => by
    have : u = 0 := by simpa using h
    subst this
    simp [nd]
  | k + 1, u, h => by
    by_cases h0 : u = 0
    · subst h0; simp [nd]
    · rw [nd_step (by omega), List.length_append]
      have := nd_len k (u / 10) (by rw [Nat.div_lt_iff_lt_mul (by decide)]; rw [Nat.pow_succ] at h; exact h)
      simp; omega
theorem nd_itoa (n : Int) : Lib.itoa n = if n = 0 then [48] else if n < 0 then 45 :: nd n.natAbs else nd n.natAbs := by
  unfold Lib.itoa nd
  by_cases h0 : n = 0
  · subst h0; rw [if_neg (by omega), if_pos rfl]; rw [Lib.decDigits, dif_pos (by decide)]; rfl
  · rw [if_neg h0]
    by_cases h1 : n < 0
    · rw [if_pos h1, if_pos h1, if_neg (by omega)]
    · rw [if_neg h1, if_neg h1, if_neg (by omega), show n.natAbs = n.toNat by omega]
theorem nd_pos {u : Nat} (h : 0 < u) : 0 < (nd u).length := by
  rw [nd_step h]; simp
theorem abs_mod (k : Int) : (k.natAbs % 10 : Nat) = (if Int.tmod k 10 < 0 then - Int.tmod k 10 else Int.tmod k 10) ∧ (Int.tdiv k 10).natAbs = k.natAbs / 10 ∧ (0 ≤ k → 0 ≤ Int.tmod k 10 ∧ 0 ≤ Int.tdiv k 10) ∧ (k ≤ 0 → Int.tmod k 10 ≤ 0 ∧ Int.tdiv k 10 ≤ 0) := by
  rcases Int.natAbs_eq k with h | h
  · generalize k.natAbs = u at *
    subst h
    have e1 : Int.tmod (u : Int) 10 = ((u % 10 : Nat) : Int) := by rw [Int.tmod_eq_emod_of_nonneg (by omega)]; simp
    have e2 : Int.tdiv (u : Int) 10 = ((u / 10 : Nat) : Int) := by rw [Int.tdiv_eq_ediv_of_nonneg (by omega)]; simp
    rw [e1, e2]
    refine ⟨?_, by omega, by omega, by omega⟩
    rw [if_neg (by omega)]
  · generalize k.natAbs = u at *
    subst h
    have e1 : Int.tmod (-(u : Int)) 10 = -((u % 10 : Nat) : Int) := by rw [Int.neg_tmod, Int.tmod_eq_emod_of_nonneg (by omega)]; simp
    have e2 : Int.tdiv (-(u : Int)) 10 = -((u / 10 : Nat) : Int) := by rw [Int.neg_tdiv, Int.tdiv_eq_ediv_of_nonneg (by omega)]; simp
    rw [e1, e2]
    refine ⟨?_, by omega, by omega, by omega⟩
    split <;> omega

theorem own_of_row {w w' : World} {g n cap base : Nat} {e : TypeId} {xs : List Value} (h : Row w g e 1 n cap xs) (hb : Below w.heap.size w w') (hg : base ≤ g) : w'.ownsRow base e 1 (.slice (some ⟨g, 0, none⟩) n cap) n xs := (h.below hb h.lt).own hg

theorem bl_one (r : Nat) (h : r < 10) : bl [UInt8.ofNat (48 + r)] = [.int .u8 (48 + (r : Int))] := by
  have : (UInt8.ofNat (48 + r)).toNat = 48 + r := by
    rw [UInt8.toNat_ofNat']; omega
  simp only [bl, List.map_cons, List.map_nil, this]
  rfl
theorem Row.newsD {w : World} {g n cap : Nat} {e : TypeId} {xs : List Value} (h : Row w g e 1 n cap xs) (ob : Obj) : ∀ j u, xs[j]? = some u → (w.alloc ob).cell? ((⟨g, 0, none⟩ : Addr).add j) = some u := by
  intro j u hu
  have e : (⟨g, 0, none⟩ : Addr).add j = ⟨g, j, none⟩ := by unfold Addr.add; split <;> simp_all
  rw [e]
  exact (h.alloc ob).cell hu

theorem cat_str (a b : List UInt8) : (⟨a.toArray⟩ : ByteArray) ++ ⟨b.toArray⟩ = ⟨(a ++ b).toArray⟩ := by
  apply ByteArray.ext
  simp

set_option maxHeartbeats 2000000 in
theorem l01Dec_any (n : Int) (w : World) (hn : -9223372036854775808 ≤ n ∧ n ≤ 9223372036854775807) :
    Calls Tryd.prog 33 #[.int .i64 n] w fun e w' => e = .returned (str (Lib.itoa n)) ∧ Below w.heap.size w w' := by
  obtain ⟨i0, hi, hz0, hz1, hz2⟩ := info_parts info_u8
  have hlen : (nd n.natAbs).length ≤ 20 := nd_len 20 _ (by omega)
  go_enter Tryd.func33, Tryd.ntmps33
  go_wp2_with fail
  go_loopw [3, 4, 5] (fun ov kv dv wr => ∃ (k : Int) (L : List UInt8) (g m cap : Nat), kv = .int .i64 k ∧ nd n.natAbs = nd k.natAbs ++ L ∧ ((0 ≤ n ∧ 0 ≤ k ∧ k ≤ n) ∨ (n < 0 ∧ k ≤ 0 ∧ n ≤ k)) ∧ L.length = m ∧ ov = .slice (some ⟨g, 0, none⟩) m cap ∧ w.heap.size ≤ g ∧ Row wr g 5 1 m cap (bl L) ∧ Below w.heap.size w wr) (fun _ kv _ _ => (intOf kv).natAbs)
  case atStart => exact ⟨n, [], w.heap.size, 0, 0, rfl, by simp, by omega, rfl, rfl, by omega, Row.lit (n := 0) (cs := #[]) (by simp) rfl (by simp [maxLen]), by go_grown⟩
  case round =>
    obtain ⟨k, L, g, m, cap, rfl, hnd, hsg, hm, rfl, hg, hrow, hbel⟩ := hrel
    have sr := hbel.size
    have hml : m ≤ 20 := by have := congrArg List.length hnd; rw [List.length_append] at this; omega
    have HN := hide hnd
    have HM := hide hm
    clear hnd hm
    by_cases hk : k = 0
    · subst hk
      have hL : L = nd n.natAbs := by
        have h1 := HN.out
        rw [show nd (Int.natAbs 0) = [] from rfl, List.nil_append] at h1
        exact h1.symm
      have hit := nd_itoa n
      rw [← hL] at hit
      have hdn : n = 0 ∨ (n < 0 ∧ 0 < m) ∨ (¬ n < 0 ∧ n ≠ 0 ∧ 0 < m) := by
        by_cases h0 : n = 0
        · exact .inl h0
        · have := nd_pos (u := n.natAbs) (by omega)
          rw [← hL, HM.out] at this
          by_cases h1 : n < 0
          · exact .inr (.inl ⟨h1, this⟩)
          · exact .inr (.inr ⟨h1, h0, this⟩)
      have hmz : n = 0 → m = 0 := fun h => by
        have := HM.out
        rw [hL, h] at this
        exact this.symm
      have hstr := str_of_row hrow HM.out.symm
      clear hL HN hsg hlen
      rcases hdn with h0 | ⟨h1, h2⟩ | ⟨h1, h2, h3⟩
      · have hm0 := hmz h0
        rw [if_pos h0] at hit
        have HIT := hide hit
        have hmq : ((m : Int) == 0) = true := beq_iff_eq.2 (by omega)
        have HM0 := hide hm0
        clear hmz hit h0 hm0 hstr hn
        go_wp2_with fail
        go_ret
        exact ⟨by rw [HIT.out]; rfl, hbel⟩
      · rw [if_neg (by omega), if_pos h1] at hit
        have HIT := hide hit
        have hmq : ((m : Int) == 0) = false := beq_eq_false_iff_ne.2 (by omega)
        have hd : decide (n < 0) = true := decide_eq_true h1
        obtain ⟨S, hS⟩ : ∃ S : ByteArray, S = ⟨L.toArray⟩ := ⟨_, rfl⟩
        rw [show str L = .string S by rw [hS]; rfl] at hstr
        have hsz : S.size ≤ 20 := by rw [hS]; show L.toArray.size ≤ 20; rw [List.size_toArray, HM.out]; exact hml
        have hs3 : ¬ IntKind.i64.max < ((ByteArray.size ⟨#[45]⟩ + S.size : Nat) : Int) := by
          show ¬ (9223372036854775807 : Int) < ((1 + S.size : Nat) : Int)
          omega
        have hs4 : ¬ (9223372036854775807 : Int) < 1 + (S.size : Int) := by omega
        have HS := hide hS
        clear hmz hit hn hS
        go_wp2_with fail
        go_ret
        refine ⟨?_, hbel⟩
        rw [HIT.out, HS.out]
        exact congrArg (fun b => Ending.returned (Value.string b)) (cat_str [45] L)
      · rw [if_neg h2, if_neg h1] at hit
        have HIT := hide hit
        have hmq : ((m : Int) == 0) = false := beq_eq_false_iff_ne.2 (by omega)
        have hd : decide (n < 0) = false := decide_eq_false h1
        clear hmz hit hn h2
        go_wp2_with fail
        go_ret
        exact ⟨by rw [HIT.out]; rfl, hbel⟩
    · have hstep := nd_step (u := k.natAbs) (by omega)
      obtain ⟨am, ad, ap, an⟩ := abs_mod k
      have HS := hide hstep
      have hlt10 : k.natAbs % 10 < 10 := by omega
      have b1 := bl_one _ hlt10
      have hkn : (k != 0) = true := by simpa using hk
      have hrl := hrow.lt
      have hnews := fun ob => hrow.newsD ob
      clear hstep
      by_cases ht : Int.tmod k 10 < 0
      · rw [if_pos ht] at am
        obtain ⟨t, hte⟩ : ∃ t, Int.tmod k 10 = t := ⟨_, rfl⟩
        obtain ⟨q, hqe⟩ : ∃ q, Int.tdiv k 10 = q := ⟨_, rfl⟩
        rw [hte] at am ht ap an
        rw [hqe] at ad ap an
        have t9 : -9 ≤ t := by omega
        have hq : -922337203685477580 ≤ q ∧ q ≤ 922337203685477580 := by omega
        have AM := hide am
        have AD := hide ad
        have B1 := hide b1
        have HSG := hide hsg
        have HAP := hide (And.intro ap an)
        have HNB := hide hn
        have HNE := hide hk
        have hd : decide (t < 0) = true := decide_eq_true ht
        clear am ad b1 hsg ap an hk hn hlen hlt10 hrl
        have i48 : IntKind.u8.wrap (48 + -t) = 48 + -t := by rw [show IntKind.u8.wrap (48 + -t) = (48 + -t) % 256 from rfl]; omega
        have hgw : w.heap.size ≤ wr.heap.size := by omega
        go_wp2_with (at_builtin; refine wpList_append_own _ rfl (.tmp 21) (.tmp 22) _ rfl w.heap.size 5 i0 _ 1 1 Tryd.underlying30 hi hz0 hz1 hz2 rfl (by omega) (.slice (some ⟨wr.heap.size, 0, none⟩) 1 1) 1 [.int .u8 (48 + -t)] (by rfl) ((Row.lit (n := 1) (cs := #[.int .u8 (48 + -t)]) rfl rfl (by simp [maxLen])).own hgw) ⟨g, 0, none⟩ m cap (bl L) (by rfl) (by rw [bl_len, HM.out]; omega) (hnews _) (one_bl _) (by simp only [maxLen]; omega) (by omega) (by simp; omega) ?_; intro v8 w8 hown8 hgrow8 hnil8)
        have HO8 := hide hown8
        clear hown8 hnil8
        go_roundw
        case rel =>
          obtain ⟨g9, cap9, rfl, hg9, hr9⟩ := own_pos HO8.out (by omega)
          refine ⟨q, [UInt8.ofNat (48 + k.natAbs % 10)] ++ L, g9, 1 + m, cap9, rfl, ?_, ?_, ?_, rfl, hg9, ?_, ?_⟩
          · rw [HN.out, HS.out, AD.out, List.append_assoc]
          · have := HSG.out; have := HAP.out; have := AD.out; omega
          · rw [List.length_append, HM.out]; rfl
          · rw [bl_append, B1.out, AM.out]; exact hr9
          · exact (hbel.alloc sr _).grown hgrow8 (by simp; omega) (fun k hk => by simp [Value.ownBlock] at hk; omega)
        case measure => have := AD.out; have := HNE.out; simp only [intOf]; omega
      · rw [if_neg ht] at am
        obtain ⟨t, hte⟩ : ∃ t, Int.tmod k 10 = t := ⟨_, rfl⟩
        obtain ⟨q, hqe⟩ : ∃ q, Int.tdiv k 10 = q := ⟨_, rfl⟩
        rw [hte] at am ht ap an
        rw [hqe] at ad ap an
        have t9 : t ≤ 9 := by omega
        have hq : -922337203685477580 ≤ q ∧ q ≤ 922337203685477580 := by omega
        have AM := hide am
        have AD := hide ad
        have B1 := hide b1
        have HSG := hide hsg
        have HAP := hide (And.intro ap an)
        have HNB := hide hn
        have HNE := hide hk
        have hd : decide (t < 0) = false := decide_eq_false ht
        clear am ad b1 hsg ap an hk hn hlen hlt10 hrl
        have i48 : IntKind.u8.wrap (48 + t) = 48 + t := by rw [show IntKind.u8.wrap (48 + t) = (48 + t) % 256 from rfl]; omega
        have hgw : w.heap.size ≤ wr.heap.size := by omega
        go_wp2_with (at_builtin; refine wpList_append_own _ rfl (.tmp 21) (.tmp 22) _ rfl w.heap.size 5 i0 _ 1 1 Tryd.underlying30 hi hz0 hz1 hz2 rfl (by omega) (.slice (some ⟨wr.heap.size, 0, none⟩) 1 1) 1 [.int .u8 (48 + t)] (by rfl) ((Row.lit (n := 1) (cs := #[.int .u8 (48 + t)]) rfl rfl (by simp [maxLen])).own hgw) ⟨g, 0, none⟩ m cap (bl L) (by rfl) (by rw [bl_len, HM.out]; omega) (hnews _) (one_bl _) (by simp only [maxLen]; omega) (by omega) (by simp; omega) ?_; intro v8 w8 hown8 hgrow8 hnil8)
        have HO8 := hide hown8
        clear hown8 hnil8
        go_roundw
        case rel =>
          obtain ⟨g9, cap9, rfl, hg9, hr9⟩ := own_pos HO8.out (by omega)
          refine ⟨q, [UInt8.ofNat (48 + k.natAbs % 10)] ++ L, g9, 1 + m, cap9, rfl, ?_, ?_, ?_, rfl, hg9, ?_, ?_⟩
          · rw [HN.out, HS.out, AD.out, List.append_assoc]
          · have := HSG.out; have := HAP.out; have := AD.out; omega
          · rw [List.length_append, HM.out]; rfl
          · rw [bl_append, B1.out, AM.out]; exact hr9
          · exact (hbel.alloc sr _).grown hgrow8 (by simp; omega) (fun k hk => by simp [Value.ownBlock] at hk; omega)
        case measure => have := AD.out; have := HNE.out; simp only [intOf]; omega

end Go.Proofs.YtikpiigamnpafaaDoor
