/- Counting bits: the steps of a 64-bit word's count, in plain numbers. -/
import Derived.Test.YtlinhckgdfhppaaK5
set_option linter.unusedSimpArgs false
set_option linter.unusedVariables false
namespace Go.Proofs.YtlinhckgdfhppaaK
open Go

/-- How many of the first n are true. -/
def cntB (f : Nat → Bool) : Nat → Nat
  | 0 => 0
  | n + 1 => cntB f n + (f n).toNat
theorem cntB_add (f : Nat → Bool) (m : Nat) : ∀ n, cntB f (m + n) = cntB f m + cntB (fun i => f (m + i)) n
  | 0 => rfl
  | n + 1 => by
    rw [← Nat.add_assoc, cntB, cntB_add f m n, cntB]
    omega
theorem cntB_congr {f g : Nat → Bool} : ∀ {n : Nat}, (∀ i, i < n → f i = g i) → cntB f n = cntB g n
  | 0, _ => rfl
  | n + 1, h => by rw [cntB, cntB, cntB_congr fun i hi => h i (by omega), h n (by omega)]
theorem cntB_le (f : Nat → Bool) : ∀ n, cntB f n ≤ n
  | 0 => Nat.le_refl _
  | n + 1 => by
    have := cntB_le f n
    rw [cntB]
    cases f n <;> simp <;> omega

/-- A number from its bytes. -/
def val : List Nat → Nat
  | [] => 0
  | b :: bs => b + 256 * val bs
theorem tb_split (b r i : Nat) (hb : b < 256) : (b + 256 * r).testBit i = if i < 8 then b.testBit i else r.testBit (i - 8) := by
  rw [show b + 256 * r = 2 ^ 8 * r + b by omega]
  exact Nat.testBit_two_pow_mul_add r (i := 8) (by simpa using hb) i
theorem and_split (a b m n : Nat) (ha : a < 256) (hm : m < 256) : (a + 256 * b) &&& (m + 256 * n) = (a &&& m) + 256 * (b &&& n) := by
  apply Nat.eq_of_testBit_eq
  intro i
  rw [Nat.testBit_and, tb_split a b i ha, tb_split m n i hm, tb_split _ _ i (Nat.lt_of_le_of_lt Nat.and_le_left ha), Nat.testBit_and, Nat.testBit_and]
  split <;> rfl
def mask (m : Nat) (n : Nat) : Nat := val (List.replicate n m)
theorem mask_succ (m n : Nat) : mask m (n + 1) = m + 256 * mask m n := rfl

def by1 (b : Nat) : Nat := (b / 2 &&& 0x55) + (b &&& 0x55)
def by2 (b : Nat) : Nat := (b / 4 &&& 0x33) + (b &&& 0x33)
def by3 (b : Nat) : Nat := (b / 16 + b) &&& 0x0f
theorem dec1 : ∀ b < 256, ∀ c < 2, (b / 2 + 128 * c) &&& 0x55 = b / 2 &&& 0x55 := by decide +kernel
theorem dec2 : ∀ b < 256, ∀ c < 4, (b / 4 + 64 * c) &&& 0x33 = b / 4 &&& 0x33 := by decide +kernel
theorem dec3 : ∀ b < 256, by3 (by2 (by1 b)) = cntB b.testBit 8 ∧ by2 (by1 b) / 16 ≤ 4 ∧ by2 (by1 b) % 16 ≤ 4 ∧ by1 b < 256 ∧ by2 (by1 b) < 256 := by decide +kernel
theorem step1 : ∀ bs : List Nat, (∀ b ∈ bs, b < 256) → (val bs / 2 &&& mask 0x55 bs.length) + (val bs &&& mask 0x55 bs.length) = val (bs.map by1)
  | [], _ => rfl
  | b :: bs, h => by
    have hb := h b (by simp)
    have ih := step1 bs fun x hx => h x (by simp [hx])
    rw [List.length_cons, mask_succ, List.map_cons, val, val, ← ih, and_split _ _ _ _ hb (by omega)]
    have e : (b + 256 * val bs) / 2 = (b / 2 + 128 * (val bs % 2)) + 256 * (val bs / 2) := by omega
    rw [e, and_split _ _ _ _ (by omega) (by omega), dec1 b hb _ (by omega), by1]
    omega
theorem step2 : ∀ bs : List Nat, (∀ b ∈ bs, b < 256) → (val bs / 4 &&& mask 0x33 bs.length) + (val bs &&& mask 0x33 bs.length) = val (bs.map by2)
  | [], _ => rfl
  | b :: bs, h => by
    have hb := h b (by simp)
    have ih := step2 bs fun x hx => h x (by simp [hx])
    rw [List.length_cons, mask_succ, List.map_cons, val, val, ← ih, and_split _ _ _ _ hb (by omega)]
    have e : (b + 256 * val bs) / 4 = (b / 4 + 64 * (val bs % 4)) + 256 * (val bs / 4) := by omega
    rw [e, and_split _ _ _ _ (by omega) (by omega), dec2 b hb _ (by omega), by2]
    omega
theorem val_mod16 : ∀ bs : List Nat, (∀ b ∈ bs, b / 16 ≤ 4 ∧ b % 16 ≤ 4) → val bs % 16 ≤ 4
  | [], _ => by simp [val]
  | b :: bs, h => by
    have := h b (by simp)
    rw [val]
    omega
theorem step3 : ∀ bs : List Nat, (∀ b ∈ bs, b / 16 ≤ 4 ∧ b % 16 ≤ 4) → (val bs / 16 + val bs) &&& mask 0x0f bs.length = val (bs.map by3)
  | [], _ => rfl
  | b :: bs, h => by
    have hb := h b (by simp)
    have hs : ∀ b ∈ bs, b / 16 ≤ 4 ∧ b % 16 ≤ 4 := fun x hx => h x (by simp [hx])
    have ih := step3 bs hs
    have hm := val_mod16 bs hs
    rw [List.length_cons, mask_succ, List.map_cons, val, val, ← ih]
    have e : (b + 256 * val bs) / 16 + (b + 256 * val bs) = (b / 16 + b + 16 * (val bs % 16)) + 256 * (val bs / 16 + val bs) := by omega
    rw [e, and_split _ _ _ _ (by omega) (by omega), by3]
    congr 1
    have a1 := Nat.and_two_pow_sub_one_eq_mod (b / 16 + b + 16 * (val bs % 16)) 4
    have a2 := Nat.and_two_pow_sub_one_eq_mod (b / 16 + b) 4
    simp at a1 a2
    rw [a1, a2]
    try omega
theorem map3 : ∀ bs : List Nat, (∀ b ∈ bs, b < 256) → ((bs.map by1).map by2).map by3 = bs.map fun b => cntB b.testBit 8
  | [], _ => rfl
  | b :: bs, h => by
    have h1 := (dec3 b (h b (by simp))).1
    have h2 := map3 bs fun x hx => h x (by simp [hx])
    rw [List.map_cons, List.map_cons, List.map_cons, List.map_cons, h1, h2]
theorem cnt_val : ∀ bs : List Nat, (∀ b ∈ bs, b < 256) → cntB (val bs).testBit (8 * bs.length) = (bs.map fun b => cntB b.testBit 8).sum
  | [], _ => rfl
  | b :: bs, h => by
    have hb := h b (by simp)
    rw [List.length_cons, Nat.mul_add, Nat.add_comm, Nat.mul_one, cntB_add, List.map_cons, List.sum_cons, ← cnt_val bs fun x hx => h x (by simp [hx])]
    congr 1
    · exact cntB_congr fun i hi => by rw [val, tb_split _ _ _ hb, if_pos hi]
    · exact cntB_congr fun i _ => by rw [val, tb_split _ _ _ hb, if_neg (by omega), Nat.add_sub_cancel_left]
def bytes8 (x : Nat) : List Nat := [x % 256, x / 256 % 256, x / 65536 % 256, x / 16777216 % 256, x / 4294967296 % 256, x / 1099511627776 % 256, x / 281474976710656 % 256, x / 72057594037927936 % 256]
theorem val_bytes8 (x : Nat) (h : x < 18446744073709551616) : val (bytes8 x) = x := by
  simp only [bytes8, val]
  omega
theorem bytes8_lt (x : Nat) : ∀ b ∈ bytes8 x, b < 256 := by
  intro b hb
  simp only [bytes8, List.mem_cons, List.not_mem_nil, or_false] at hb
  omega
def st1 (x : Nat) : Nat := (x / 2 &&& 6148914691236517205) + (x &&& 6148914691236517205)
def st2 (x : Nat) : Nat := (x / 4 &&& 3689348814741910323) + (x &&& 3689348814741910323)
def st3 (x : Nat) : Nat := (x / 16 + x) &&& 1085102592571150095
def st4 (x : Nat) : Nat := x + x / 256
def st5 (x : Nat) : Nat := x + x / 65536
def st6 (x : Nat) : Nat := x + x / 4294967296
set_option maxHeartbeats 2000000 in
theorem popcount (x : Nat) (h : x < 18446744073709551616) : st6 (st5 (st4 (st3 (st2 (st1 x))))) &&& 127 = cntB x.testBit 64 ∧ st1 x < 18446744073709551616 ∧ st2 (st1 x) < 18446744073709551616 ∧ st2 (st1 x) / 16 + st2 (st1 x) < 18446744073709551616 ∧
    st4 (st3 (st2 (st1 x))) < 18446744073709551616 ∧ st5 (st4 (st3 (st2 (st1 x)))) < 18446744073709551616 ∧ st6 (st5 (st4 (st3 (st2 (st1 x))))) < 9223372036854775808 := by
  have hv := val_bytes8 x h
  have hl := bytes8_lt x
  have e1 : st1 x = val ((bytes8 x).map by1) := by
    rw [← step1 _ hl, hv]; rfl
  have hl1 : ∀ b ∈ (bytes8 x).map by1, b < 256 := by
    intro b hb
    obtain ⟨c, hc, rfl⟩ := List.mem_map.1 hb
    exact (dec3 c (hl c hc)).2.2.2.1
  have e2 : st2 (st1 x) = val (((bytes8 x).map by1).map by2) := by
    rw [← step2 _ hl1, e1]; rfl
  have hl2 : ∀ b ∈ ((bytes8 x).map by1).map by2, b / 16 ≤ 4 ∧ b % 16 ≤ 4 := by
    intro b hb
    obtain ⟨c, hc, rfl⟩ := List.mem_map.1 hb
    obtain ⟨d, hd, rfl⟩ := List.mem_map.1 hc
    exact ⟨(dec3 d (hl d hd)).2.1, (dec3 d (hl d hd)).2.2.1⟩
  have e3 : st3 (st2 (st1 x)) = val ((((bytes8 x).map by1).map by2).map by3) := by
    rw [← step3 _ hl2, e2]; rfl
  have e4 := map3 (bytes8 x) hl
  have hc := cnt_val _ hl
  rw [hv] at hc
  rw [e4] at e3
  have hc2 : cntB x.testBit 64 = ((bytes8 x).map fun b => cntB b.testBit 8).sum := hc
  rw [e3, hc2]
  have m127 := Nat.and_two_pow_sub_one_eq_mod (st6 (st5 (st4 (val ((bytes8 x).map fun b => cntB b.testBit 8))))) 7
  simp only [bytes8, List.map_cons, List.map_nil, List.sum_cons, List.sum_nil, val] at m127 ⊢
  have k0 := cntB_le (x % 256).testBit 8
  have k1 := cntB_le (x / 256 % 256).testBit 8
  have k2 := cntB_le (x / 65536 % 256).testBit 8
  have k3 := cntB_le (x / 16777216 % 256).testBit 8
  have k4 := cntB_le (x / 4294967296 % 256).testBit 8
  have k5 := cntB_le (x / 1099511627776 % 256).testBit 8
  have k6 := cntB_le (x / 281474976710656 % 256).testBit 8
  have k7 := cntB_le (x / 72057594037927936 % 256).testBit 8
  generalize cntB (x % 256).testBit 8 = y0 at *
  generalize cntB (x / 256 % 256).testBit 8 = y1 at *
  generalize cntB (x / 65536 % 256).testBit 8 = y2 at *
  generalize cntB (x / 16777216 % 256).testBit 8 = y3 at *
  generalize cntB (x / 4294967296 % 256).testBit 8 = y4 at *
  generalize cntB (x / 1099511627776 % 256).testBit 8 = y5 at *
  generalize cntB (x / 281474976710656 % 256).testBit 8 = y6 at *
  generalize cntB (x / 72057594037927936 % 256).testBit 8 = y7 at *
  have q2 : st2 (st1 x) ≤ 4919131752989213764 := by
    rw [e2]
    clear e2 e3 e4 hc m127 hl1 e1
    have hb : ∀ bs : List Nat, (∀ b ∈ bs, b / 16 ≤ 4 ∧ b % 16 ≤ 4) → val bs ≤ val (bs.map fun _ => 68) := by
      intro bs
      induction bs with
      | nil => intro _; exact Nat.le_refl _
      | cons b bs ih =>
        intro h
        have h1 := h b (by simp)
        have h2 := ih fun x hx => h x (by simp [hx])
        rw [List.map_cons, val, val]
        omega
    refine Nat.le_trans (hb _ hl2) (Nat.le_of_eq ?_)
    simp [bytes8, val]
  have q1 : st1 x ≤ 2 * 6148914691236517205 := by
    unfold st1
    have a := @Nat.and_le_right (x / 2) 6148914691236517205
    have b := @Nat.and_le_right x 6148914691236517205
    omega
  clear e1 e2 e3 e4 hc hc2 hl hl1 hl2 hv
  have m127' : ∀ z : Nat, z &&& 127 = z % 128 := fun z => Nat.and_two_pow_sub_one_eq_mod z 7
  rw [m127']
  clear m127
  have a4 : st4 (y0 + 256 * (y1 + 256 * (y2 + 256 * (y3 + 256 * (y4 + 256 * (y5 + 256 * (y6 + 256 * (y7 + 256 * 0)))))))) = (y0 + y1) + 256 * (y1 + y2) + 65536 * ((y2 + y3) + 256 * (y3 + y4) + 65536 * ((y4 + y5) + 256 * (y5 + y6) + 65536 * ((y6 + y7) + 256 * y7))) := by
    unfold st4
    omega
  have a5 : st5 ((y0 + y1) + 256 * (y1 + y2) + 65536 * ((y2 + y3) + 256 * (y3 + y4) + 65536 * ((y4 + y5) + 256 * (y5 + y6) + 65536 * ((y6 + y7) + 256 * y7)))) = (y0 + y1 + y2 + y3) + 256 * (y1 + y2 + y3 + y4) + 65536 * ((y2 + y3 + y4 + y5) + 256 * (y3 + y4 + y5 + y6)) + 4294967296 * ((y4 + y5 + y6 + y7) + 256 * (y5 + y6 + y7) + 65536 * ((y6 + y7) + 256 * y7)) := by
    unfold st5
    omega
  rw [a4, a5]
  have a6 : st6 ((y0 + y1 + y2 + y3) + 256 * (y1 + y2 + y3 + y4) + 65536 * ((y2 + y3 + y4 + y5) + 256 * (y3 + y4 + y5 + y6)) + 4294967296 * ((y4 + y5 + y6 + y7) + 256 * (y5 + y6 + y7) + 65536 * ((y6 + y7) + 256 * y7))) =
      (y0 + y1 + y2 + y3) + 256 * (y1 + y2 + y3 + y4) + 65536 * ((y2 + y3 + y4 + y5) + 256 * (y3 + y4 + y5 + y6)) + 4294967296 * ((y4 + y5 + y6 + y7) + 256 * (y5 + y6 + y7) + 65536 * ((y6 + y7) + 256 * y7)) + ((y4 + y5 + y6 + y7) + 256 * (y5 + y6 + y7) + 65536 * ((y6 + y7) + 256 * y7)) := by
    unfold st6
    omega
  rw [a6]
  clear a4 a5 a6
  refine ⟨?_, by omega, by omega, by omega, by omega, by omega, by omega⟩
  omega
end Go.Proofs.YtlinhckgdfhppaaK
