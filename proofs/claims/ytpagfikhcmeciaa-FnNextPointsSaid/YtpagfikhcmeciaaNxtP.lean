/- Going from multiple to multiple: plain facts. -/
import Derived.Test.YtpagfikhcmeciaaOrdG
namespace Go.Proofs.Ytpagfikhcmeciaa
open Go.RowKit

theorem gpc_yes {p q c : Int} (h1 : okF p q = true) (h2 : 1 ≤ c ∧ c ≤ 200) (h3 : c ≤ q) : gpc p q c = 0 := by
  unfold gpc
  rw [if_pos h1, if_pos h2, if_neg (by omega)]
theorem fic_ok {p q c : Int} (h : fic p q c = 0) : okF p q = true ∧ (1 ≤ c ∧ c ≤ 200) ∧ c < q := by
  unfold fic at h
  by_cases h0 : gpc p q c = 0
  · obtain ⟨h1, h2, h3⟩ := gpc_ok h0
    rw [if_pos h0] at h
    by_cases h4 : c = q
    · rw [if_pos h4] at h; cases h
    · exact ⟨h1, h2, by omega⟩
  · rw [if_neg h0] at h; exact absurd h h0
/-- The multiple behind the i-th one. -/
theorem nmv_at {p q : Int} {c : Nat} (h1 : okF p q = true) (h2 : 1 ≤ c ∧ c ≤ 200) (h3 : (c : Int) ≤ q) {i : Nat} (hi : i < c) :
    nmc p q c ((ord (rst p q) c).getD i 0) = 0 ∧ nmv p q c ((ord (rst p q) c).getD i 0) = (ord (rst p q) c).getD ((i + 1) % c) 0 := by
  have hm := ord_mem (n := c) hi (rst p q)
  have e : nmc p q c ((ord (rst p q) c).getD i 0) = 0 := by
    unfold nmc
    rw [if_pos (gpc_yes h1 (by omega) h3), if_pos (by omega)]
  refine ⟨e, ?_⟩
  unfold nmv
  rw [if_pos e, Int.toNat_natCast, idx_at (ord_nodup _ _) (by rw [ord_len]; exact hi) rfl]
/-- The next multiple falls behind the one that is told. -/
theorem next_falls {p q : Int} {c : Nat} (h : fic p q c = 0) (h200 : c < 200) : nmc p q ((c : Int) + 1) (fiv p q c) = 0 ∧ nmv p q ((c : Int) + 1) (fiv p q c) = c := by
  obtain ⟨h1, h2, h3⟩ := fic_ok h
  obtain ⟨o1, o2, o3⟩ := okF_iff.1 h1
  have hle := insK_le (rst p q) (ord (rst p q) c) c c
  have h0 := falls_pos (p := p) (q := q) (c := c) (by omega) o3 (by omega) h3
  obtain ⟨f1, f2⟩ := falls_next hle h0
  have ev : fiv p q c = (ord (rst p q) c).getD (insK (rst p q) (ord (rst p q) c) c c - 1) 0 := by
    unfold fiv fip
    rw [if_pos h, Int.toNat_natCast]
  rw [← ev] at f2
  generalize insK (rst p q) (ord (rst p q) c) c c = K at *
  have key := nmv_at (p := p) (q := q) (c := c + 1) h1 (by omega) (by omega) (i := K - 1) (by omega)
  rw [f2] at key
  have e : ((c + 1 : Nat) : Int) = (c : Int) + 1 := by omega
  rw [e] at key
  refine ⟨key.1, ?_⟩
  rw [key.2]
  have e2 : (K - 1 + 1) % (c + 1) = K := by
    rw [Nat.sub_add_cancel (by omega), Nat.mod_eq_of_lt (by omega)]
  rw [e2, f1]
/-- Where one comes to in i steps from 0. -/
theorem walk_at {p q : Int} {c : Nat} (h1 : okF p q = true) (h2 : 1 ≤ c ∧ c ≤ 200) (h3 : (c : Int) ≤ q) {i : Nat} (hi : i < c) :
    0 ≤ (ord (rst p q) c).getD ((i + 1) % c) 0 ∧ (ord (rst p q) c).getD ((i + 1) % c) 0 < c ∧ ((ord (rst p q) c).getD ((i + 1) % c) 0 = 0 ↔ (i : Int) = (c : Int) - 1) := by
  obtain ⟨o1, o2, o3⟩ := okF_iff.1 h1
  have hlt : (i + 1) % c < c := Nat.mod_lt _ (by omega)
  have hm := ord_mem (n := c) hlt (rst p q)
  have hz := ord_zero (p := p) (q := q) (n := c) (by omega) o3 (by omega) h3
  refine ⟨hm.1, hm.2, ?_⟩
  constructor
  · intro h
    rcases (show i + 1 = c ∨ i + 1 < c by omega) with e | e
    · omega
    · exfalso
      rw [Nat.mod_eq_of_lt e] at h
      have := ord_lt (p := p) (q := q) (by omega) o3 (n := c) h3 (show 0 < i + 1 by omega) e
      rw [h, hz] at this
      omega
  · intro h
    have e : i + 1 = c := by omega
    rw [e, Nat.mod_self]
    exact hz

end Go.Proofs.Ytpagfikhcmeciaa
