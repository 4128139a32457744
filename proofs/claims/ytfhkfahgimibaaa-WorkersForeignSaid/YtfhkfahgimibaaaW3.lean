/- Contracts: digests. -/
import Derived.Test.YtfhkfahgimibaaaW2
namespace Go.QL
open Go.Proofs.Try
abbrev U (n : Int) : AV := .vl (.int .u64 n)
def dig1 (d b : Int) : Int := IntKind.u64.wrap (bitv .xor .u64 d b * 1099511628211)
def dS (d : Int) (X : Nat) : Nat → Int
  | 0 => d
  | k + 1 => dig1 (dS d X k) ((X / 256 ^ k % 256 : Nat) : Int)
def u64n (n : Int) : Nat := (IntKind.u64.wrap n).toNat
theorem wrap_eq (n : Int) : IntKind.u64.wrap n = n % 18446744073709551616 := by
  simp [IntKind.wrap, IntKind.bits, IntKind.signed]
theorem wrap_nat {n : Nat} (h : n < 18446744073709551616) : IntKind.u64.wrap (n : Int) = n := by
  rw [wrap_eq]
  omega
theorem wrap_u64n (n : Int) : IntKind.u64.wrap n = (u64n n : Int) ∧ u64n n < 18446744073709551616 := by
  unfold u64n
  rw [wrap_eq]
  omega
theorem and255 {X : Nat} (h : X < 18446744073709551616) : bitv .and .u64 (X : Int) 255 = ((X % 256 : Nat) : Int) := by
  show IntKind.u64.wrap (((BitVec.ofInt 64 (X : Int)) &&& (BitVec.ofInt 64 255)).toNat : Int) = _
  rw [show BitVec.ofInt 64 (X : Int) = BitVec.ofNat 64 X from by simp, show BitVec.ofInt 64 255 = BitVec.ofNat 64 255 from rfl]
  rw [BitVec.toNat_and, BitVec.toNat_ofNat, BitVec.toNat_ofNat, Nat.mod_eq_of_lt h]
  rw [show 255 % 2 ^ 64 = 2 ^ 8 - 1 from rfl, Nat.and_two_pow_sub_one_eq_mod]
  exact wrap_nat (by omega)
/-- A digest, continued by a number. -/
def eightS (d n : Int) : Int := dS d (u64n n) 8
theorem c35 (d n : Int) : FP prog 35 [U d, I n] (fun x => x = U (eightS d n)) := by
  refine fp_start r35 (by simp) ?_
  simp only [go_sem, m35, Nat.reduceAdd, Nat.reduceBEq]
  obtain ⟨hw, hlt⟩ := wrap_u64n n
  refine loop_use (fun m s => ∃ i : Nat, i ≤ 8 ∧ m = 8 - i ∧ s = ⟨[(6, I i), (5, U ((u64n n / 256 ^ i : Nat) : Int)), (0, U (dS d (u64n n) i))], [], 0⟩) 8 _ ⟨0, by omega, rfl, rfl⟩ (by simp) ?_ ?_
  · refine le_use ?_
    simp only [go_sem, Nat.reduceBEq, hw]
    simp [dS]
  · rintro m s ⟨i, hi, rfl, rfl⟩
    simp only [go_sem]
    refine cond_split (fun hc => ?_) (fun hc => ?_)
    · have hlt8 : i < 8 := by simp at hc; omega
      simp only [go_sem, Nat.reduceBEq]
      have e1 : (((u64n n / 256 ^ i : Nat) : Int)).tmod 256 = ((u64n n / 256 ^ i % 256 : Nat) : Int) := by
        rw [Int.tmod_eq_emod_of_nonneg (Int.natCast_nonneg _)]
        rfl
      have e2 : IntKind.u64.wrap ((((u64n n / 256 ^ i : Nat) : Int)).tdiv 256) = ((u64n n / 256 ^ (i + 1) : Nat) : Int) := by
        rw [Int.tdiv_eq_ediv_of_nonneg (Int.natCast_nonneg _), show ((u64n n / 256 ^ i : Nat) : Int) / 256 = ((u64n n / 256 ^ i / 256 : Nat) : Int) from rfl, Nat.div_div_eq_div_mul, ← Nat.pow_succ]
        exact wrap_nat (Nat.lt_of_le_of_lt (Nat.div_le_self _ _) hlt)
      simp only [e1, e2]
      refine ⟨by decide, by decide, by unfold InR; omega, 8 - (i + 1), _, by omega, ⟨i + 1, hlt8, rfl, rfl⟩, by simp, ?_⟩
      refine le_use ?_
      simp only [go_sem, Nat.reduceBEq]
      simp [dS, dig1]
    · have hge : i = 8 := by simp at hc; omega
      subst hge
      simp only [go_sem, Nat.reduceBEq]
      rfl
/-- A record. -/
structure Rec where
  at_ : Int
  kind : Int
  a : Int
  flow : Int
  sub : Int
  num : Int
  data : Int
  size : Int
  sent : Int
  able : Bool
  marked : Bool
  deriving DecidableEq
def Rec.enc (r : Rec) : List AV := [I r.at_, I r.kind, I r.a, I r.flow, I r.sub, I r.num, I r.data, I r.size, I r.sent, B r.able, B r.marked]
def Rec.nums (r : Rec) : List Int := [r.at_, r.kind, r.a, r.flow, r.sub, r.num, r.data, r.size, r.sent, (if r.able then 1 else 0) + (if r.marked then 2 else 0)]
def digestS (d : Int) (r : Rec) : Int := r.nums.foldl eightS d
theorem fold_take {α : Type} (f : Int → α → Int) (d : Int) (l : List α) (i : Nat) (h : i < l.length) : (l.take (i + 1)).foldl f d = f ((l.take i).foldl f d) l[i] := by
  rw [List.take_succ_eq_append_getElem h, List.foldl_append]
  rfl
theorem drop_head {l : List Int} {i : Nat} (h : i < l.length) : ((l.map I).drop i).headD .any = I l[i] := by
  rw [List.drop_eq_getElem_cons (by simpa using h)]
  simp
theorem nums_len (r : Rec) : r.nums.length = 10 := rfl
theorem c17 (d : Int) (r : Rec) : FP prog 17 [U d, .agg r.enc] (fun x => x = U (digestS d r)) := by
  refine fp_start r17 (by simp) ?_
  obtain ⟨nums, hnums⟩ : ∃ nums, nums = r.nums := ⟨_, rfl⟩
  have hn : nums.length = 10 := by rw [hnums]; rfl
  unfold digestS
  rw [← hnums]
  obtain ⟨a1, a2, a3, a4, a5, a6, a7, a8, a9, b1, b2⟩ := r
  have step : ∀ i : Nat, i < 10 → (nums.take (i + 1)).foldl eightS d = eightS ((nums.take i).foldl eightS d) (nums.getD i 0) := fun i hi => by
    rw [fold_take eightS d nums i (by omega)]
    congr 1
    simp [List.getD_eq_getElem?_getD, show i < nums.length by omega]
  have hd : ∀ i : Nat, i < 10 → ((nums.map I).drop i).headD .any = I (nums.getD i 0) := fun i hi => by
    rw [drop_head (by omega)]
    simp [List.getD_eq_getElem?_getD, show i < nums.length by omega]
  cases b1 <;> cases b2 <;> simp only [go_sem, m17, Nat.reduceAdd, Nat.reduceBEq, Nat.reduceLeDiff, Rec.enc]
  case' false.true => refine ⟨by unfold InR; omega, ?_⟩
  case' true.false => refine ⟨by unfold InR; omega, ?_⟩
  case' true.true => refine ⟨by unfold InR; omega, by unfold InR; omega, ?_⟩
  all_goals
    refine loop_use (fun m s => ∃ i : Nat, i ≤ 10 ∧ m = 10 - i ∧ s = ⟨[(7, I i), (6, .osl 1 1 0 10 10), (0, U ((nums.take i).foldl eightS d))], [(1, .cs (nums.map I))], 2⟩) 10 _ ⟨0, by omega, rfl, rfl⟩ (by simp) ?_ ?_
    · refine le_use ?_
      simp only [go_sem, Nat.reduceBEq]
      subst hnums
      simp [Rec.nums, lbBx, lbs, lb]
    · rintro m s ⟨i, hi, rfl, rfl⟩
      simp only [go_sem, Nat.reduceBEq]
      refine cond_split (fun hc => ?_) (fun hc => ?_)
      · have hlt : i < 10 := by simp at hc; omega
        simp only [go_sem, Nat.reduceBEq, Nat.reduceLeDiff, Int.toNat_natCast, Nat.mul_one, hd i hlt, List.length_map, hn]
        refine ⟨⟨by omega, by omega⟩, by omega, call_eq (by simp [lbs, lb]) (c35 _ _) ?_⟩
        simp only [go_sem, Nat.reduceBEq]
        refine ⟨by unfold InR; omega, 10 - (i + 1), _, by omega, ⟨i + 1, hlt, rfl, rfl⟩, by simp, ?_⟩
        refine le_use ?_
        simp only [go_sem, Nat.reduceBEq, step i hlt]
        refine ⟨⟨by simp, by simp [lb]⟩, by omega, ?_⟩
        refine (lbs_iff _ _).2 fun x hx => ?_
        obtain ⟨y, _, rfl⟩ := List.mem_map.1 hx
        trivial
      · have hge : i = 10 := by simp at hc; omega
        subst hge
        simp only [go_sem, Nat.reduceBEq]
        rw [List.take_of_length_le (by omega)]
theorem c49 (r : Rec) : FP prog 49 [.agg r.enc] (fun x => x = .agg (r.nums.map I)) := by
  refine fp_start r49 (by simp) ?_
  obtain ⟨a1, a2, a3, a4, a5, a6, a7, a8, a9, b1, b2⟩ := r
  cases b1 <;> cases b2 <;> simp only [go_sem, m49, Nat.reduceAdd, Nat.reduceBEq, Nat.reduceLeDiff, Rec.enc, Rec.nums]
  · rfl
  · unfold InR
    omega
  · rfl
  · unfold InR
    omega
theorem shr_pow (n : Int) (i : Nat) (hi : i < 8) : (IntKind.u64.wrap n).fdiv (2 ^ (min ((i : Int) * 8).toNat 64)) = ((u64n n / 256 ^ i : Nat) : Int) := by
  obtain ⟨hw, hlt⟩ := wrap_u64n n
  have hp : (2 : Int) ^ (8 * i) = ((256 ^ i : Nat) : Int) := by
    rw [Int.pow_mul]
    simp
  rw [hw, show min ((i : Int) * 8).toNat 64 = 8 * i from by omega, hp]
  rw [Int.fdiv_eq_ediv_of_nonneg _ (by exact Int.natCast_nonneg _)]
  rfl
theorem c45 (d : Int) (r : Rec) : FP prog 45 [U d, .agg r.enc] (fun x => x = U (digestS d r)) := by
  refine fp_start r45 (by simp) ?_
  simp only [go_sem, m45, Nat.reduceAdd, Nat.reduceBEq, Rec.enc]
  refine call_eq (by simp [lbs, lb]) (c49 r) ?_
  obtain ⟨nums, hnums⟩ : ∃ nums, nums = r.nums := ⟨_, rfl⟩
  have hn : nums.length = 10 := by rw [hnums]; rfl
  unfold digestS
  rw [← hnums]
  have hlb : lbs 0 (nums.map I) := (lbs_iff _ _).2 fun x hx => by
    obtain ⟨y, _, rfl⟩ := List.mem_map.1 hx
    trivial
  have step : ∀ i : Nat, i < 10 → (nums.take (i + 1)).foldl eightS d = eightS ((nums.take i).foldl eightS d) (nums.getD i 0) := fun i hi => by
    rw [fold_take eightS d nums i (by omega)]
    congr 1
    simp [List.getD_eq_getElem?_getD, show i < nums.length by omega]
  have hd : ∀ i : Nat, i < 10 → ((nums.map I).drop i).headD .any = I (nums.getD i 0) := fun i hi => by
    rw [drop_head (by omega)]
    simp [List.getD_eq_getElem?_getD, show i < nums.length by omega]
  simp only [go_sem]
  refine loop_use (fun m s => ∃ i : Nat, i ≤ 10 ∧ m = 10 - i ∧ s = ⟨[(10, I i), (9, .agg (nums.map I)), (0, U ((nums.take i).foldl eightS d))], [], 0⟩) 10 _ ⟨0, by omega, rfl, rfl⟩ (by simp) ?_ ?_
  · refine le_use ?_
    simp only [go_sem, Nat.reduceBEq, Nat.reduceLeDiff]
    simp [hlb]
  · rintro m s ⟨i, hi, rfl, rfl⟩
    simp only [go_sem]
    refine cond_split (fun hc => ?_) (fun hc => ?_)
    · have hlt : i < 10 := by simp at hc; omega
      simp only [go_sem, Nat.reduceBEq, Int.toNat_natCast, Nat.mul_one, hd i hlt, List.length_map, hn]
      refine ⟨⟨by omega, by omega, by omega⟩, ?_⟩
      obtain ⟨d', hd'⟩ : ∃ d', d' = (nums.take i).foldl eightS d := ⟨_, rfl⟩
      obtain ⟨x, hx⟩ : ∃ x, x = nums.getD i 0 := ⟨_, rfl⟩
      rw [← hd', ← hx]
      obtain ⟨hw, hlt64⟩ := wrap_u64n x
      refine loop_use (fun m s => ∃ k : Nat, k ≤ 8 ∧ m = 8 - k ∧ s = ⟨[(7, I ((k : Int) * 8)), (6, I x), (0, U (dS d' (u64n x) k)), (10, I i), (9, .agg (nums.map I))], [], 0⟩) 8 _ ⟨0, by omega, rfl, rfl⟩ (by simp) ?_ ?_
      · refine le_use ?_
        simp only [go_sem, Nat.reduceBEq]
        simp [hlb, dS]
      · rintro m s ⟨k, hk, rfl, rfl⟩
        simp only [go_sem]
        refine cond_split (fun hc => ?_) (fun hc => ?_)
        · have hk8 : k < 8 := by simp at hc; omega
          have h1 : u64n x / 256 ^ k < 18446744073709551616 := Nat.lt_of_le_of_lt (Nat.div_le_self _ _) hlt64
          simp only [go_sem, Nat.reduceBEq, shr_pow x k hk8, and255 h1]
          refine ⟨by omega, by unfold InR; omega, 8 - (k + 1), _, by omega, ⟨k + 1, hk8, rfl, rfl⟩, by simp, ?_⟩
          refine le_use ?_
          simp only [go_sem, Nat.reduceBEq]
          simp [hlb, dS, dig1]
          omega
        · have hge : k = 8 := by simp at hc; omega
          subst hge
          simp only [go_sem, Nat.reduceBEq]
          refine ⟨by unfold InR; omega, 10 - (i + 1), _, by omega, ⟨i + 1, hlt, rfl, rfl⟩, by simp, ?_⟩
          refine le_use ?_
          simp only [go_sem, Nat.reduceBEq, step i hlt]
          rw [← hx, ← hd']
          simp [hlb, eightS]
    · have hge : i = 10 := by simp at hc; omega
      subst hge
      simp only [go_sem, Nat.reduceBEq]
      rw [List.take_of_length_le (by omega)]
end Go.QL
