/- What the claim leans on. -/
import Derived.Test.YtmghibfeeibcmaaGreatDoorA1
import Derived.Carry
import Derived.ChangeArms
import Derived.ChangeSame
import Derived.WalkKit
import Derived.ProofKit
import Derived.OpenShut
import Derived.Deep.DeepHandedRow
import Derived.Deep.Slices
import GoSem.ClaimGoes
section
namespace Go.AM
abbrev natA (xs : List UInt32) : AV := tsE 1 (xs.map wordA)
abbrev bytesA (xs : List UInt8) : AV := tsE 1 (xs.map byteA)
def trimN (xs : List UInt32) : List UInt32 := (xs.reverse.dropWhile (· == 0)).reverse
theorem last_split {ys : List UInt32} (h : 0 < ys.length) : ys = ys.take (ys.length - 1) ++ [ys.getD (ys.length - 1) 0] := by
  have hne : ys ≠ [] := by rintro rfl; simp at h
  have h1 := (List.dropLast_concat_getLast hne).symm
  rw [List.dropLast_eq_take] at h1
  have h2 : ys.getLast hne = ys.getD (ys.length - 1) 0 := by
    rw [List.getLast_eq_getElem]; simp [List.getD, show ys.length - 1 < ys.length by omega]
  rw [h2] at h1
  exact h1
theorem trimN_zero {ys : List UInt32} (h : 0 < ys.length) (h2 : ys.getD (ys.length - 1) 0 = 0) : trimN (ys.take (ys.length - 1)) = trimN ys := by
  have h1 := last_split h
  rw [h2] at h1
  conv => rhs; rw [h1]
  simp [trimN]
theorem trimN_non {ys : List UInt32} (h : 0 < ys.length) (h2 : ys.getD (ys.length - 1) 0 ≠ 0) : trimN ys = ys := by
  have h1 := last_split h
  have h3 : ys.reverse = ys.getD (ys.length - 1) 0 :: (ys.take (ys.length - 1)).reverse := (congrArg List.reverse h1).trans (by simp)
  unfold trimN
  rw [h3, List.dropWhile_cons_of_neg (by simpa using h2), ← h3, List.reverse_reverse]
theorem trimN_nil : trimN [] = [] := rfl
theorem trimN_le (xs : List UInt32) : (trimN xs).length ≤ xs.length := by
  have := (List.dropWhile_sublist (fun x : UInt32 => x == 0) (l := xs.reverse)).length_le
  simpa [trimN] using this
theorem trimN_top (xs : List UInt32) : trimN xs = [] ∨ (trimN xs).getD ((trimN xs).length - 1) 0 ≠ 0 := by
  unfold trimN
  cases h : xs.reverse.dropWhile (· == 0) with
  | nil => exact .inl rfl
  | cons a r =>
    refine .inr ?_
    have h1 : (a == 0) = false := by
      have := List.head?_dropWhile_not (fun x : UInt32 => x == 0) xs.reverse
      rw [h] at this
      simpa using this
    simp [List.getD]
    simpa using h1
def blen (x : Nat) : Nat := if x = 0 then 0 else x.log2 + 1
theorem blen_half {x : Nat} (h : 0 < x) : blen x = blen (x / 2) + 1 := by
  unfold blen
  rw [if_neg (by omega)]
  by_cases h2 : x / 2 = 0
  · rw [if_pos h2]
    have : x = 1 := by omega
    subst this
    decide
  · rw [if_neg h2, Nat.log2_def, if_pos (by omega)]
theorem blen_le {x k : Nat} (h : x < 2 ^ k) : blen x ≤ k := by
  unfold blen
  split
  · omega
  · rename_i h0
    have : x.log2 < k := (Nat.log2_lt h0).2 h
    omega
def bitsN (a : List UInt32) : Nat := if a.length = 0 then 0 else 32 * (a.length - 1) + blen (a.getD (a.length - 1) 0).toNat
theorem bitsN_le (a : List UInt32) : bitsN a ≤ 32 * a.length := by
  unfold bitsN
  split
  · omega
  · have := blen_le (k := 32) (a.getD (a.length - 1) 0).toNat_lt
    omega
def isN (a : List UInt32) : Bool := decide (a.length ≤ 256) && (decide (a.length = 0) || (a.getD (a.length - 1) 0 != 0))
def ofStep (b : List UInt8) (i : Nat) (a : List UInt32) : List UInt32 :=
  a.set ((b.length - 1 - i) / 4) (a.getD ((b.length - 1 - i) / 4) 0 ||| ((b.getD i 0).toUInt32 <<< UInt32.ofNat (8 * ((b.length - 1 - i) % 4))))
def ofN (b : List UInt8) : List UInt32 := if b.length > 1024 then [] else trimN (forN (ofStep b) b.length 0 (List.replicate ((b.length + 3) / 4) 0))
theorem ofN_len (b : List UInt8) : (ofN b).length ≤ 256 := by
  unfold ofN
  split
  · simp
  · have h : (forN (ofStep b) b.length 0 (List.replicate ((b.length + 3) / 4) 0)).length = (b.length + 3) / 4 :=
      forN_inv' (fun a : List UInt32 => a.length = (b.length + 3) / 4) (fun i s h => by simp [ofStep, h]) _ _ _ (by simp)
    have := trimN_le (forN (ofStep b) b.length 0 (List.replicate ((b.length + 3) / 4) 0))
    omega
def byteAt (a : List UInt32) (k : Nat) : UInt8 := (a.getD (k / 4) 0 >>> UInt32.ofNat (8 * (k % 4))).toUInt8
def bytesN (a : List UInt32) (n : Nat) : List UInt8 := (List.range n).map fun j => byteAt a (n - 1 - j)
def cmpGo (a b : List UInt32) : Nat → Int
  | 0 => 0
  | i + 1 => if a.getD i 0 ≠ b.getD i 0 then (if a.getD i 0 < b.getD i 0 then -1 else 1) else cmpGo a b i
def cmpN (a b : List UInt32) : Int := if a.length ≠ b.length then (if a.length < b.length then -1 else 1) else cmpGo a b a.length
def digitN (a : List UInt32) (i : Nat) : UInt64 := (a.getD i 0).toUInt64
def addStep (a b : List UInt32) (i : Nat) (p : List UInt32 × UInt64) : List UInt32 × UInt64 :=
  (p.1.set i (digitN a i + digitN b i + p.2).toUInt32, (digitN a i + digitN b i + p.2) >>> 32)
def addN (a b : List UInt32) : List UInt32 := trimN (forN (addStep a b) (max a.length b.length + 1) 0 (List.replicate (max a.length b.length + 1) 0, 0)).1
def subStep (a b : List UInt32) (i : Nat) (p : List UInt32 × UInt64) : List UInt32 × UInt64 :=
  (p.1.set i (digitN a i + 4294967296 - digitN b i - p.2).toUInt32, (1 : UInt64) - ((digitN a i + 4294967296 - digitN b i - p.2) >>> (32 : UInt64)))
def subN (a b : List UInt32) : List UInt32 := trimN (forN (subStep a b) a.length 0 (List.replicate a.length 0, 0)).1
def mulStep1 (a b : List UInt32) (i k : Nat) (p : List UInt32 × UInt64) : List UInt32 × UInt64 :=
  (p.1.set (i + k) ((p.1.getD (i + k) 0).toUInt64 + (a.getD i 0).toUInt64 * (b.getD k 0).toUInt64 + p.2).toUInt32, ((p.1.getD (i + k) 0).toUInt64 + (a.getD i 0).toUInt64 * (b.getD k 0).toUInt64 + p.2) >>> 32)
def mulStep (a b : List UInt32) (i : Nat) (out : List UInt32) : List UInt32 :=
  (forN (mulStep1 a b i) b.length 0 (out, 0)).1.set (i + b.length) (forN (mulStep1 a b i) b.length 0 (out, 0)).2.toUInt32
def mulN (a b : List UInt32) : List UInt32 := trimN (forN (mulStep a b) a.length 0 (List.replicate (a.length + b.length) 0))
def shiftStep (a : List UInt32) (n : Nat) (i : Nat) (out : List UInt32) : List UInt32 :=
  (out.set i (out.getD i 0 ||| ((a.getD i 0).toUInt64 <<< UInt64.ofNat n).toUInt32)).set (i + 1) (((a.getD i 0).toUInt64 <<< UInt64.ofNat n) >>> 32).toUInt32
def shiftedN (a : List UInt32) (n : Nat) : List UInt32 := forN (shiftStep a n) a.length 0 (List.replicate (a.length + 1) 0)
def backStep (a : List UInt32) (n : Nat) (i : Nat) (out : List UInt32) : List UInt32 :=
  out.set i ((digitN a (i + 1) <<< 32 ||| (a.getD i 0).toUInt64) >>> UInt64.ofNat n).toUInt32
def backN (a : List UInt32) (n : Nat) : List UInt32 := trimN (forN (backStep a n) a.length 0 (List.replicate a.length 0))
structure Ls where
  u : List UInt32
  borrow : UInt64
  carry : UInt64
def lessStep (v : List UInt32) (at_ : Nat) (q : UInt64) (i : Nat) (s : Ls) : Ls :=
  let p := q * digitN v i + s.carry
  let x := (s.u.getD (at_ + i) 0).toUInt64 + 4294967296 - (p &&& 4294967295) - s.borrow
  ⟨s.u.set (at_ + i) x.toUInt32, (1 : UInt64) - (x >>> (32 : UInt64)), p >>> (32 : UInt64)⟩
def lessBack (v : List UInt32) (at_ : Nat) (i : Nat) (s : List UInt32 × UInt64) : List UInt32 × UInt64 :=
  let x := (s.1.getD (at_ + i) 0).toUInt64 + digitN v i + s.2
  (s.1.set (at_ + i) x.toUInt32, x >>> 32)
def lessN (u v : List UInt32) (at_ : Nat) (q : UInt64) : List UInt32 × Bool :=
  let s := forN (lessStep v at_ q) (v.length + 1) 0 ⟨u, 0, 0⟩
  if s.borrow = 0 then (s.u, true) else ((forN (lessBack v at_) (v.length + 1) 0 (s.u, 0)).1, false)
def guessGo (v1 v2 u2 : UInt64) : Nat → UInt64 → UInt64 → UInt64
  | 0, q, _ => q
  | k + 1, q, r => if 4294967296 ≤ q ∨ (r < 4294967296 ∧ (r <<< 32 ||| u2) < q * v2) then (if 4294967296 ≤ r + v1 then q - 1 else guessGo v1 v2 u2 k (q - 1) (r + v1)) else q
def guessN (u v : List UInt32) (at_ : Nat) : UInt64 :=
  let top := (u.getD (at_ + v.length) 0).toUInt64 <<< 32 ||| (u.getD (at_ + v.length - 1) 0).toUInt64
  let v1 := (v.getD (v.length - 1) 0).toUInt64
  guessGo v1 (digitN v (v.length - 2)) (u.getD (at_ + v.length - 2) 0).toUInt64 3 (top / v1) (top % v1)
def divStep (v : List UInt32) (at_ : Nat) (p : List UInt32 × List UInt32) : List UInt32 × List UInt32 :=
  let g := guessN p.1 v at_
  let l := lessN p.1 v at_ g
  (l.1, p.2.set at_ (if l.2 then g else g - 1).toUInt32)
def divGo (v : List UInt32) : Nat → List UInt32 × List UInt32 → List UInt32 × List UInt32
  | 0, p => p
  | k + 1, p => divGo v k (divStep v k p)
def upN (top : UInt32) : Nat := 32 - blen top.toNat
def shortStep (a : List UInt32) (b : UInt64) (i : Nat) (p : List UInt32 × UInt64) : List UInt32 × UInt64 :=
  let x := p.2 <<< 32 ||| (a.getD i 0).toUInt64
  (p.1.set i (x / b).toUInt32, x % b)
def shortGo (a : List UInt32) (b : UInt64) : Nat → List UInt32 × UInt64 → List UInt32 × UInt64
  | 0, p => p
  | k + 1, p => shortGo a b k (shortStep a b k p)
def shortN (a : List UInt32) (b : UInt64) : List UInt32 × List UInt32 :=
  let p := shortGo a b a.length (List.replicate a.length 0, 0)
  (trimN p.1, trimN [p.2.toUInt32])
def divN (a b : List UInt32) : List UInt32 × List UInt32 :=
  if b.length = 1 then shortN a (b.getD 0 0).toUInt64
  else if cmpN a b < 0 then ([], a)
  else
    let n := upN (b.getD (b.length - 1) 0)
    let v := trimN (shiftedN b n)
    let p := divGo v (a.length - b.length + 1) (shiftedN a n, List.replicate (a.length - b.length + 1) 0)
    (trimN p.2, backN (p.1.take v.length) n)
end Go.AM
end
section
namespace Go.AM
theorem forN_snoc {α : Type} {step : Nat → α → α} : ∀ (k i : Nat) (s : α), forN step (k + 1) i s = step (i + k) (forN step k i s) := by
  intro k
  induction k with
  | zero => intro i s; rfl
  | succ k ih => intro i s; rw [forN, ih]; simp only [forN]; congr 1; omega
theorem blen_mono {x y : Nat} (h : x ≤ y) : blen x ≤ blen y := by
  unfold blen
  split
  · omega
  · rename_i hx
    rw [if_neg (by omega)]
    have h1 : 2 ^ x.log2 ≤ x := (Nat.le_log2 hx).1 (Nat.le_refl _)
    have : x.log2 ≤ y.log2 := (Nat.le_log2 (by omega)).2 (by omega)
    omega
theorem blen_lt (x : Nat) : x < 2 ^ blen x := by
  unfold blen
  split
  · subst x; decide
  · exact Nat.lt_log2_self
theorem blen_ge {x : Nat} (h : x ≠ 0) : 2 ^ (blen x - 1) ≤ x := by
  unfold blen
  rw [if_neg h]
  exact (Nat.le_log2 h).1 (by omega)
theorem blen_pos {x : Nat} (h : x ≠ 0) : 0 < blen x := by unfold blen; rw [if_neg h]; omega
theorem bitsN_trim {l : List UInt32} (h : 0 < l.length) : bitsN (trimN l) ≤ 32 * (l.length - 1) + blen (l.getD (l.length - 1) 0).toNat := by
  by_cases h2 : l.getD (l.length - 1) 0 = 0
  · rw [← trimN_zero h h2]
    have h1 := trimN_le (l.take (l.length - 1))
    have h3 := bitsN_le (trimN (l.take (l.length - 1)))
    simp at h1
    omega
  · rw [trimN_non h h2, bitsN, if_neg (by omega)]
    exact Nat.le_refl _
theorem bitsN_ge {l : List UInt32} (h : 0 < l.length) (h2 : l.getD (l.length - 1) 0 ≠ 0) : 32 * (l.length - 1) + 1 ≤ bitsN l := by
  rw [bitsN, if_neg (by omega)]
  have := blen_pos (x := (l.getD (l.length - 1) 0).toNat) (fun h => h2 (UInt32.toNat_inj.1 (by simpa using h)))
  omega
theorem getD_set_eq {α : Type} (l : List α) (i : Nat) (a d : α) (h : i < l.length) : (l.set i a).getD i d = a := by simp [List.getD, h]
theorem getD_set_ne {α : Type} (l : List α) (i j : Nat) (a d : α) (h : i ≠ j) : (l.set i a).getD j d = l.getD j d := by simp [List.getD, h]
theorem cmpGo_top {a b : List UInt32} : ∀ {k : Nat}, cmpGo a b k < 0 → 0 < k → a.getD (k - 1) 0 ≤ b.getD (k - 1) 0 := by
  intro k
  cases k with
  | zero => intro _ h; omega
  | succ k =>
    intro h _
    simp only [cmpGo] at h
    simp only [Nat.add_sub_cancel]
    split at h
    · split at h
      · rename_i h3; exact UInt32.le_of_lt h3
      · omega
    · rename_i h3
      have h4 : a.getD k 0 = b.getD k 0 := Classical.byContradiction h3
      rw [h4]; exact UInt32.le_refl _
theorem cmpN_bits {a b : List UInt32} (h : cmpN a b < 0) (h0 : 0 < b.length) (h2 : b.getD (b.length - 1) 0 ≠ 0) : bitsN a ≤ bitsN b ∧ a.length ≤ b.length := by
  unfold cmpN at h
  split at h
  · split at h
    · have h3 := bitsN_le a
      have h4 := bitsN_ge h0 h2
      omega
    · omega
  · rename_i hl
    have hl : a.length = b.length := Classical.byContradiction hl
    refine ⟨?_, by omega⟩
    have h3 := cmpGo_top h (by omega)
    rw [bitsN, bitsN, if_neg (by omega), if_neg (by omega), hl]
    rw [hl] at h3
    have := blen_mono (UInt32.le_iff_toNat_le.1 h3)
    omega
theorem shift_len (a : List UInt32) (n k : Nat) : (forN (shiftStep a n) k 0 (List.replicate (a.length + 1) 0)).length = a.length + 1 :=
  forN_inv' (fun o : List UInt32 => o.length = a.length + 1) (fun i s h => by simp [shiftStep, h]) _ _ _ (by simp)
theorem shiftedN_len (a : List UInt32) (n : Nat) : (shiftedN a n).length = a.length + 1 := shift_len a n _
theorem back_len (a : List UInt32) (n k : Nat) : (forN (backStep a n) k 0 (List.replicate a.length 0)).length = a.length :=
  forN_inv' (fun o : List UInt32 => o.length = a.length) (fun i s h => by simp [backStep, h]) _ _ _ (by simp)
theorem backN_bits (a : List UInt32) {n : Nat} (hn : n ≤ 32) (h : 0 < a.length) : bitsN (backN a n) ≤ 32 * (a.length - 1) + (32 - n) ∧ (backN a n).length ≤ a.length := by
  unfold backN
  have hl := back_len a n a.length
  refine ⟨?_, by have := trimN_le (forN (backStep a n) a.length 0 (List.replicate a.length 0)); omega⟩
  have h1 := bitsN_trim (l := forN (backStep a n) a.length 0 (List.replicate a.length 0)) (by omega)
  rw [hl] at h1
  refine Nat.le_trans h1 (Nat.add_le_add_left (blen_le ?_) _)
  have e : a.length = a.length - 1 + 1 := by omega
  conv => lhs; arg 1; arg 1; rw [e]
  rw [forN_snoc]
  simp only [backStep, Nat.zero_add]
  rw [getD_set_eq _ _ _ _ (by have := back_len a n (a.length - 1); rw [← e]; omega)]
  have hd : digitN a (a.length - 1 + 1) = 0 := by
    unfold digitN
    rw [show a.length - 1 + 1 = a.length by omega]
    simp [List.getD]
  rw [hd]
  have h2 : (a.getD (a.length - 1) 0).toNat < 2 ^ 32 := UInt32.toNat_lt _
  generalize a.getD (a.length - 1) 0 = t at *
  have h3 : (((0 : UInt64) <<< 32 ||| t.toUInt64) >>> UInt64.ofNat n).toNat = t.toNat / 2 ^ n := by
    rw [UInt64.toNat_shiftRight, Nat.shiftRight_eq_div_pow]
    have : (UInt64.ofNat n).toNat % 64 = n := by rw [UInt64.toNat_ofNat']; omega
    rw [this]
    congr 1
    simp
  rw [UInt64.toNat_toUInt32, h3]
  refine Nat.lt_of_le_of_lt (Nat.mod_le _ _) ?_
  rw [Nat.div_lt_iff_lt_mul (by exact Nat.pos_of_ne_zero (by simp))]
  rw [← Nat.pow_add, show 32 - n + n = 32 by omega]
  exact h2
theorem upN_le (t : UInt32) : upN t ≤ 32 := by unfold upN; omega
theorem upN_lt {t : UInt32} (h : t ≠ 0) : upN t < 32 := by
  have := blen_pos (x := t.toNat) (fun h2 => h (UInt32.toNat_inj.1 (by simpa using h2)))
  unfold upN; omega
theorem up_mul {t : UInt32} {n : Nat} (hn : n ≤ upN t) : t.toNat * 2 ^ n < 2 ^ 32 := by
  have h1 := blen_lt t.toNat
  have h2 := blen_le (k := 32) t.toNat_lt
  calc t.toNat * 2 ^ n < 2 ^ blen t.toNat * 2 ^ n := Nat.mul_lt_mul_of_pos_right h1 (Nat.pos_of_ne_zero (by simp))
    _ = 2 ^ (blen t.toNat + n) := (Nat.pow_add _ _ _).symm
    _ ≤ 2 ^ 32 := Nat.pow_le_pow_right (by omega) (by unfold upN at hn; omega)
theorem up_shl {t : UInt32} {n : Nat} (hn : n ≤ upN t) (h : t ≠ 0) : (t <<< UInt32.ofNat n).toNat = t.toNat * 2 ^ n := by
  have := upN_lt h
  rw [UInt32.toNat_shiftLeft, UInt32.toNat_ofNat', Nat.shiftLeft_eq, show n % 2 ^ 32 % 32 = n by omega]
  exact Nat.mod_eq_of_lt (up_mul hn)
theorem up_ge {t : UInt32} (h : t ≠ 0) : 2 ^ 31 ≤ t.toNat * 2 ^ upN t := by
  have h0 : t.toNat ≠ 0 := fun h2 => h (UInt32.toNat_inj.1 (by simpa using h2))
  have h1 := blen_ge h0
  have h2 := blen_le (k := 32) t.toNat_lt
  have h3 := blen_pos h0
  calc 2 ^ 31 = 2 ^ (blen t.toNat - 1 + upN t) := by congr 1; unfold upN; omega
    _ = 2 ^ (blen t.toNat - 1) * 2 ^ upN t := Nat.pow_add _ _ _
    _ ≤ _ := Nat.mul_le_mul_right _ h1
theorem up_less {t : UInt32} {n : Nat} (hn : n < upN t) : t.toNat * 2 ^ n < 2 ^ 31 := by
  have := up_mul (t := t) (n := n + 1) hn
  rw [Nat.pow_succ, ← Nat.mul_assoc] at this
  omega
theorem up_more {t : UInt32} {n : Nat} (hn : n ≤ upN t) (h : t ≠ 0) : (t <<< UInt32.ofNat n).toNat < 2147483648 ↔ n < upN t := by
  rw [up_shl hn h]
  constructor
  · intro h1
    rcases Nat.lt_or_ge n (upN t) with h2 | h2
    · exact h2
    · have := up_ge h
      rw [show upN t = n by omega] at this
      omega
  · intro h1; have := up_less h1; omega
theorem shifted_top {b : List UInt32} (h : 0 < b.length) (h2 : b.getD (b.length - 1) 0 ≠ 0) :
    (trimN (shiftedN b (upN (b.getD (b.length - 1) 0)))).length = b.length ∧ 2 ^ 31 ≤ ((trimN (shiftedN b (upN (b.getD (b.length - 1) 0)))).getD (b.length - 1) 0).toNat := by
  generalize ht : b.getD (b.length - 1) 0 = t at *
  have hn := upN_lt h2
  have e : b.length = b.length - 1 + 1 := by omega
  have hs : shiftedN b (upN t) = shiftStep b (upN t) (b.length - 1) (forN (shiftStep b (upN t)) (b.length - 1) 0 (List.replicate (b.length + 1) 0)) := by
    unfold shiftedN
    conv => lhs; arg 2; rw [e]
    rw [forN_snoc, Nat.zero_add]
  have hl := shift_len b (upN t) (b.length - 1)
  have hx : (t.toUInt64 <<< UInt64.ofNat (upN t)).toNat = t.toNat * 2 ^ upN t := by
    have := up_mul (t := t) (n := upN t) (Nat.le_refl _)
    rw [UInt64.toNat_shiftLeft, UInt64.toNat_ofNat', Nat.shiftLeft_eq, show upN t % 2 ^ 64 % 64 = upN t by omega]
    rw [UInt32.toNat_toUInt64]
    exact Nat.mod_eq_of_lt (by omega)
  have hm := up_mul (t := t) (n := upN t) (Nat.le_refl _)
  have hg := up_ge h2
  generalize forN (shiftStep b (upN t)) (b.length - 1) 0 (List.replicate (b.length + 1) 0) = o at *
  have hlen : (shiftedN b (upN t)).length = b.length + 1 := shiftedN_len _ _
  have hlast : (shiftedN b (upN t)).getD b.length 0 = 0 := by
    rw [hs, shiftStep]
    rw [show b.length - 1 + 1 = b.length by omega]
    rw [getD_set_eq _ _ _ _ (by simp; omega), ht]
    apply UInt32.toNat_inj.1
    rw [UInt64.toNat_toUInt32, UInt64.toNat_shiftRight, hx, Nat.shiftRight_eq_div_pow]
    have : t.toNat * 2 ^ upN t / 2 ^ (32 : UInt64).toNat = 0 := Nat.div_eq_of_lt hm
    simp only [UInt32.toNat_zero]
    show (t.toNat * 2 ^ upN t / 2 ^ 32) % 2 ^ 32 = 0
    rw [Nat.div_eq_of_lt hm]
  have hpre : 2 ^ 31 ≤ ((shiftedN b (upN t)).getD (b.length - 1) 0).toNat := by
    rw [hs, shiftStep]
    rw [getD_set_ne _ _ _ _ _ (by omega), getD_set_eq _ _ _ _ (by omega), ht]
    rw [UInt32.toNat_or]
    refine Nat.le_trans ?_ Nat.right_le_or
    rw [UInt64.toNat_toUInt32, hx]
    rw [Nat.mod_eq_of_lt hm]
    exact hg
  have htk : trimN (shiftedN b (upN t)) = (shiftedN b (upN t)).take b.length := by
    have h3 := trimN_zero (ys := shiftedN b (upN t)) (by omega) (by rw [hlen]; exact hlast)
    rw [hlen, Nat.add_sub_cancel] at h3
    rw [← h3]
    refine trimN_non (by simp; omega) ?_
    have e1 : ((shiftedN b (upN t)).take b.length).length = b.length := by simp; omega
    rw [e1]
    have e2 : ((shiftedN b (upN t)).take b.length).getD (b.length - 1) 0 = (shiftedN b (upN t)).getD (b.length - 1) 0 := by
      simp [List.getD, show b.length - 1 < b.length by omega]
    rw [e2]
    intro h4
    rw [h4] at hpre
    simp at hpre
  rw [htk]
  have e2 : ((shiftedN b (upN t)).take b.length).getD (b.length - 1) 0 = (shiftedN b (upN t)).getD (b.length - 1) 0 := by
    simp [List.getD, show b.length - 1 < b.length by omega]
  rw [e2]
  exact ⟨by simp; omega, hpre⟩
theorem less_len (u v : List UInt32) (at_ : Nat) (q : UInt64) : (lessN u v at_ q).1.length = u.length := by
  unfold lessN
  have h1 : (forN (lessStep v at_ q) (v.length + 1) 0 ⟨u, 0, 0⟩).u.length = u.length :=
    forN_inv' (fun s : Ls => s.u.length = u.length) (fun i s h => by simp [lessStep, h]) _ _ _ rfl
  generalize forN (lessStep v at_ q) (v.length + 1) 0 ⟨u, 0, 0⟩ = s at *
  simp only
  split
  · exact h1
  · exact forN_inv' (fun s : List UInt32 × UInt64 => s.1.length = u.length) (fun i s h => by simp [lessBack, h]) _ _ _ h1
theorem divGo_len (v : List UInt32) : ∀ (k : Nat) (p : List UInt32 × List UInt32), (divGo v k p).1.length = p.1.length ∧ (divGo v k p).2.length = p.2.length := by
  intro k
  induction k with
  | zero => intro p; exact ⟨rfl, rfl⟩
  | succ k ih =>
    intro p
    have := ih (divStep v k p)
    simp only [divGo]
    rw [this.1, this.2]
    simp [divStep, less_len]
theorem shortGo_len (a : List UInt32) (b : UInt64) : ∀ (k : Nat) (p : List UInt32 × UInt64), (shortGo a b k p).1.length = p.1.length := by
  intro k
  induction k with
  | zero => intro p; rfl
  | succ k ih => intro p; simp only [shortGo]; rw [ih]; simp [shortStep]
theorem shortGo_rest (a : List UInt32) (b : UInt64) (hb : b ≠ 0) : ∀ (k : Nat) (p : List UInt32 × UInt64), p.2 < b → (shortGo a b k p).2 < b := by
  intro k
  induction k with
  | zero => intro p h; exact h
  | succ k ih =>
    intro p h
    simp only [shortGo]
    refine ih _ ?_
    simp only [shortStep]
    rw [UInt64.lt_iff_toNat_lt, UInt64.toNat_mod]
    exact Nat.mod_lt _ (Nat.pos_of_ne_zero fun h2 => hb (UInt64.toNat_inj.1 (by simpa using h2)))
theorem trimN_one (x : UInt32) : trimN [x] = if x = 0 then [] else [x] := by
  by_cases h : x = 0
  · subst h; rfl
  · rw [if_neg h]; exact trimN_non (ys := [x]) (by simp) h
theorem shortN_rest (a : List UInt32) {b : UInt32} (hb : b ≠ 0) : ∃ r : UInt32, r < b ∧ (shortN a b.toUInt64).2 = if r = 0 then [] else [r] := by
  have hb' : b.toUInt64 ≠ 0 := fun h => hb (by
    have := congrArg UInt64.toNat h
    exact UInt32.toNat_inj.1 (by simpa using this))
  have hp : (0 : UInt64) < b.toUInt64 := by
    rw [UInt64.lt_iff_toNat_lt]
    exact Nat.pos_of_ne_zero fun h => hb' (UInt64.toNat_inj.1 h)
  have h1 := shortGo_rest a b.toUInt64 hb' a.length (List.replicate a.length 0, 0) hp
  refine ⟨(shortGo a b.toUInt64 a.length (List.replicate a.length 0, 0)).2.toUInt32, ?_, trimN_one _⟩
  generalize (shortGo a b.toUInt64 a.length (List.replicate a.length 0, 0)).2 = r at *
  rw [UInt64.lt_iff_toNat_lt] at h1
  rw [UInt32.lt_iff_toNat_lt, UInt64.toNat_toUInt32]
  simp at h1
  omega
theorem divN_len (a b : List UInt32) (hb : 0 < b.length) (h2 : b.getD (b.length - 1) 0 ≠ 0) : (divN a b).1.length ≤ a.length ∧ (divN a b).2.length ≤ b.length ∧ bitsN (divN a b).2 ≤ bitsN b := by
  unfold divN
  by_cases h1 : b.length = 1
  · rw [if_pos h1]
    have e : b.getD (b.length - 1) 0 = b.getD 0 0 := by rw [h1]
    rw [e] at h2
    obtain ⟨r, hr, hq⟩ := shortN_rest a h2
    refine ⟨?_, ?_, ?_⟩
    · have := trimN_le (shortGo a (b.getD 0 0).toUInt64 a.length (List.replicate a.length 0, 0)).1
      rw [shortGo_len] at this
      simpa [shortN] using this
    · rw [hq]; split <;> simp <;> omega
    · rw [hq, bitsN, bitsN, if_neg (show ¬ b.length = 0 by omega), e, h1]
      split
      · simp
      · simp only [List.length_cons, List.length_nil, Nat.zero_add, Nat.sub_self, Nat.mul_zero]
        rw [if_neg (by omega)]
        have := blen_mono (Nat.le_of_lt (UInt32.lt_iff_toNat_lt.1 hr))
        simpa [List.getD] using this
  · rw [if_neg h1]
    by_cases hc : cmpN a b < 0
    · rw [if_pos hc]
      have := cmpN_bits hc hb h2
      exact ⟨Nat.zero_le _, this.2, this.1⟩
    · rw [if_neg hc]
      simp only
      have hs := shifted_top hb h2
      have hu := upN_lt h2
      have hlen : b.length ≤ a.length := by
        unfold cmpN at hc
        split at hc
        · split at hc <;> omega
        · omega
      generalize hv : trimN (shiftedN b (upN (b.getD (b.length - 1) 0))) = v at *
      have hg := divGo_len v (a.length - b.length + 1) (shiftedN a (upN (b.getD (b.length - 1) 0)), List.replicate (a.length - b.length + 1) 0)
      generalize divGo v (a.length - b.length + 1) (shiftedN a (upN (b.getD (b.length - 1) 0)), List.replicate (a.length - b.length + 1) 0) = p at *
      simp only [shiftedN_len, List.length_replicate] at hg
      have hk := backN_bits (p.1.take v.length) (n := upN (b.getD (b.length - 1) 0)) (by omega) (by simp; omega)
      have e : (p.1.take v.length).length = b.length := by simp; omega
      rw [e] at hk
      show (trimN p.2).length ≤ a.length ∧ (backN (p.1.take v.length) (upN (b.getD (b.length - 1) 0))).length ≤ b.length ∧ bitsN (backN (p.1.take v.length) (upN (b.getD (b.length - 1) 0))) ≤ bitsN b
      refine ⟨?_, hk.2, ?_⟩
      · have := trimN_le p.2; omega
      · refine Nat.le_trans hk.1 ?_
        rw [bitsN, if_neg (by omega)]
        have h3 := blen_le (k := 32) (b.getD (b.length - 1) 0).toNat_lt
        unfold upN
        omega
theorem divN_trimmed (a b : List UInt32) (ha : a = [] ∨ a.getD (a.length - 1) 0 ≠ 0) : ((divN a b).2 = [] ∨ (divN a b).2.getD ((divN a b).2.length - 1) 0 ≠ 0) := by
  unfold divN
  split
  · exact trimN_top _
  · split
    · exact ha
    · exact trimN_top _
end Go.AM
end
section
namespace Go.AM
theorem mulN_len (a b : List UInt32) : (mulN a b).length ≤ a.length + b.length := by
  have h : (forN (mulStep a b) a.length 0 (List.replicate (a.length + b.length) 0)).length = a.length + b.length :=
    forN_inv' (fun o : List UInt32 => o.length = a.length + b.length) (fun i s h => by
      have h1 : (forN (mulStep1 a b i) b.length 0 (s, 0)).1.length = s.length :=
        forN_inv' (fun o : List UInt32 × UInt64 => o.1.length = s.length) (fun k t h => by simp [mulStep1, h]) _ _ _ rfl
      simp [mulStep, h1, h]) _ _ _ (by simp)
  have := trimN_le (forN (mulStep a b) a.length 0 (List.replicate (a.length + b.length) 0))
  unfold mulN; omega
theorem addN_len (a b : List UInt32) : (addN a b).length ≤ max a.length b.length + 1 := by
  have h : (forN (addStep a b) (max a.length b.length + 1) 0 (List.replicate (max a.length b.length + 1) 0, 0)).1.length = max a.length b.length + 1 :=
    forN_inv' (fun o : List UInt32 × UInt64 => o.1.length = max a.length b.length + 1) (fun i s h => by simp [addStep, h]) _ _ _ (by simp)
  have := trimN_le (forN (addStep a b) (max a.length b.length + 1) 0 (List.replicate (max a.length b.length + 1) 0, 0)).1
  unfold addN; omega
theorem subN_len (a b : List UInt32) : (subN a b).length ≤ a.length := by
  have h : (forN (subStep a b) a.length 0 (List.replicate a.length 0, 0)).1.length = a.length :=
    forN_inv' (fun o : List UInt32 × UInt64 => o.1.length = a.length) (fun i s h => by simp [subStep, h]) _ _ _ (by simp)
  have := trimN_le (forN (subStep a b) a.length 0 (List.replicate a.length 0, 0)).1
  unfold subN; omega
def okM (m : List UInt32) : Prop := 0 < m.length ∧ m.getD (m.length - 1) 0 ≠ 0
def restN (a m : List UInt32) : List UInt32 := (divN a m).2
def mulM (a b m : List UInt32) : List UInt32 := restN (mulN a b) m
def subO (a b : List UInt32) : List UInt32 × Bool := if cmpN a b < 0 then ([], false) else (subN a b, true)
def subM (a b m : List UInt32) : List UInt32 :=
  let x := restN a m
  let y := restN b m
  if (subO x y).2 then (subO x y).1 else (subO (addN x m) y).1
theorem restN_len {a m : List UInt32} (h : okM m) : (restN a m).length ≤ m.length := (divN_len a m h.1 h.2).2.1
theorem restN_bits {a m : List UInt32} (h : okM m) : bitsN (restN a m) ≤ bitsN m := (divN_len a m h.1 h.2).2.2
theorem subO_len (a b : List UInt32) : (subO a b).1.length ≤ a.length := by
  unfold subO
  split
  · exact Nat.zero_le _
  · exact subN_len a b
theorem subM_len {a b m : List UInt32} (h : okM m) : (subM a b m).length ≤ m.length + 1 := by
  unfold subM
  simp only
  split
  · have := subO_len (restN a m) (restN b m); have := restN_len (a := a) h; omega
  · have := subO_len (addN (restN a m) m) (restN b m); have := addN_len (restN a m) m; have := restN_len (a := a) h; omega
def expStep (a e m : List UInt32) (k : Nat) (x : List UInt32) : List UInt32 :=
  if (e.getD (k / 32) 0 >>> UInt32.ofNat (k % 32)) &&& 1 = 1 then mulM (mulM x x m) a m else mulM x x m
def expGo (a e m : List UInt32) : Nat → List UInt32 → List UInt32
  | 0, x => x
  | k + 1, x => expGo a e m k (expStep a e m k x)
def expN (a e m : List UInt32) : List UInt32 := expGo (restN a m) e m (bitsN e) (restN [1] m)
theorem expGo_inv {a e m : List UInt32} (I : List UInt32 → Prop) (h : ∀ y, I (restN y m)) : ∀ (k : Nat) (x : List UInt32), I x → I (expGo a e m k x) := by
  intro k
  induction k with
  | zero => intro x hx; exact hx
  | succ k ih =>
    intro x hx
    simp only [expGo]
    refine ih _ ?_
    unfold expStep
    split <;> exact h _
theorem expN_len {a e m : List UInt32} (h : okM m) : (expN a e m).length ≤ m.length := expGo_inv (fun x => x.length ≤ m.length) (fun _ => restN_len h) _ _ (restN_len h)
theorem expN_bits {a e m : List UInt32} (h : okM m) : bitsN (expN a e m) ≤ bitsN m := expGo_inv (fun x => bitsN x ≤ bitsN m) (fun _ => restN_bits h) _ _ (restN_bits h)
structure Iv where
  r : List UInt32
  s : List UInt32
  x : List UInt32
  y : List UInt32
def invStep (m : List UInt32) (v : Iv) : Iv := ⟨v.s, (divN v.r v.s).2, v.y, subM v.x (mulM (divN v.r v.s).1 v.y m) m⟩
def invGo (m : List UInt32) : Nat → Iv → Iv
  | 0, v => v
  | k + 1, v => if v.s = [] then v else invGo m k (invStep m v)
def invN (w : UInt32) (m : List UInt32) : List UInt32 × Bool :=
  if cmpN m [2] < 0 then ([], false)
  else
    let v := invGo m 4294967296 ⟨m, restN [w] m, [], [1]⟩
    if cmpN v.r [1] ≠ 0 then ([], false) else (v.x, true)
theorem invStep_len {m : List UInt32} (h : okM m) {v : Iv} (hv : v.x.length ≤ m.length + 1 ∧ v.y.length ≤ m.length + 1) : (invStep m v).x.length ≤ m.length + 1 ∧ (invStep m v).y.length ≤ m.length + 1 := ⟨hv.2, subM_len h⟩
theorem invGo_len {m : List UInt32} (h : okM m) : ∀ (k : Nat) (v : Iv), v.x.length ≤ m.length + 1 ∧ v.y.length ≤ m.length + 1 → (invGo m k v).x.length ≤ m.length + 1 := by
  intro k
  induction k with
  | zero => intro v hv; exact hv.1
  | succ k ih =>
    intro v hv
    simp only [invGo]
    split
    · exact hv.1
    · exact ih _ (invStep_len h hv)
theorem invN_len (w : UInt32) {m : List UInt32} (h : okM m) : (invN w m).1.length ≤ m.length + 1 := by
  unfold invN
  split
  · exact Nat.zero_le _
  · simp only
    split
    · exact Nat.zero_le _
    · exact invGo_len h _ _ ⟨by simp, by have := h.1; simp⟩
def frameN (digest : List UInt8) (n : Nat) : List UInt8 :=
  [0, 1] ++ List.replicate (n - 54) 0xff ++ [0, 0x30, 0x31, 0x30, 0x0d, 6, 9, 0x60, 0x86, 0x48, 1, 0x65, 3, 4, 2, 1, 5, 0, 4, 0x20] ++ digest
theorem frameN_len {digest : List UInt8} {n : Nat} (h : digest.length = 32) (hn : 62 ≤ n) : (frameN digest n).length = n := by simp [frameN, h]; omega
def sizeN (m : List UInt32) : Nat := (bitsN m + 7) / 8
def signN (m d : List UInt32) (digest : List UInt8) : List UInt8 := bytesN (expN (ofN (frameN digest (sizeN m))) d m) (sizeN m)
theorem bytesN_len (a : List UInt32) (n : Nat) : (bytesN a n).length = n := by simp [bytesN]
theorem signN_len (m d : List UInt32) (digest : List UInt8) : (signN m d digest).length = sizeN m := bytesN_len _ _
def turnedN (x : UInt32) (n : Nat) : UInt32 := x >>> UInt32.ofNat n ||| x <<< UInt32.ofNat (32 - n)
def kN : List UInt32 := [0x428a2f98, 0x71374491, 0xb5c0fbcf, 0xe9b5dba5, 0x3956c25b, 0x59f111f1, 0x923f82a4, 0xab1c5ed5, 0xd807aa98, 0x12835b01, 0x243185be, 0x550c7dc3, 0x72be5d74, 0x80deb1fe, 0x9bdc06a7, 0xc19bf174, 0xe49b69c1, 0xefbe4786, 0x0fc19dc6, 0x240ca1cc, 0x2de92c6f, 0x4a7484aa, 0x5cb0a9dc, 0x76f988da, 0x983e5152, 0xa831c66d, 0xb00327c8, 0xbf597fc7, 0xc6e00bf3, 0xd5a79147, 0x06ca6351, 0x14292967, 0x27b70a85, 0x2e1b2138, 0x4d2c6dfc, 0x53380d13, 0x650a7354, 0x766a0abb, 0x81c2c92e, 0x92722c85, 0xa2bfe8a1, 0xa81a664b, 0xc24b8b70, 0xc76c51a3, 0xd192e819, 0xd6990624, 0xf40e3585, 0x106aa070, 0x19a4c116, 0x1e376c08, 0x2748774c, 0x34b0bcb5, 0x391c0cb3, 0x4ed8aa4a, 0x5b9cca4f, 0x682e6ff3, 0x748f82ee, 0x78a5636f, 0x84c87814, 0x8cc70208, 0x90befffa, 0xa4506ceb, 0xbef9a3f7, 0xc67178f2]
def wordN (b : List UInt8) (t : Nat) : UInt32 :=
  (b.getD (4 * t) 0).toUInt32 <<< 24 ||| (b.getD (4 * t + 1) 0).toUInt32 <<< 16 ||| (b.getD (4 * t + 2) 0).toUInt32 <<< 8 ||| (b.getD (4 * t + 3) 0).toUInt32
def w1Step (b : List UInt8) (t : Nat) (w : List UInt32) : List UInt32 := w.set t (wordN b t)
def w2Step (t : Nat) (w : List UInt32) : List UInt32 :=
  let x := w.getD (t - 15) 0
  let y := w.getD (t - 2) 0
  w.set t (w.getD (t - 16) 0 + (turnedN x 7 ^^^ turnedN x 18 ^^^ x >>> 3) + w.getD (t - 7) 0 + (turnedN y 17 ^^^ turnedN y 19 ^^^ y >>> 10))
def rStep (w : List UInt32) (t : Nat) (s : List UInt32) : List UInt32 :=
  let g := fun i => s.getD i 0
  let a := g 0
  let e := g 4
  let t1 := g 7 + (turnedN e 6 ^^^ turnedN e 11 ^^^ turnedN e 25) + (e &&& g 5 ^^^ (~~~ e) &&& g 6) + kN.getD t 0 + w.getD t 0
  let t2 := (turnedN a 2 ^^^ turnedN a 13 ^^^ turnedN a 22) + (a &&& g 1 ^^^ a &&& g 2 ^^^ g 1 &&& g 2)
  [t1 + t2, a, g 1, g 2, g 3 + t1, e, g 5, g 6]
def hStep (s : List UInt32) (i : Nat) (h : List UInt32) : List UInt32 := h.set i (h.getD i 0 + s.getD i 0)
def wordsN (b : List UInt8) : List UInt32 := forN w2Step 48 16 (forN (w1Step b) 16 0 (List.replicate 64 0))
def blockN (h : List UInt32) (b : List UInt8) : List UInt32 := forN (hStep (forN (rStep (wordsN b)) 64 0 h)) 8 0 h
theorem blockN_len (h : List UInt32) (b : List UInt8) : (blockN h b).length = h.length :=
  forN_inv' (fun o : List UInt32 => o.length = h.length) (fun i s h => by simp [hStep, h]) _ _ _ rfl
def padN (b : List UInt8) : List UInt8 :=
  b ++ [0x80] ++ List.replicate ((119 - b.length % 64) % 64) 0 ++ (List.range 8).map fun i => ((UInt64.ofNat b.length * 8) >>> UInt64.ofNat (56 - 8 * i)).toUInt8
def blocksGo : Nat → List UInt32 → List UInt8 → List UInt32
  | 0, h, _ => h
  | k + 1, h, x => if x = [] then h else blocksGo k (blockN h (x.take 64)) (x.drop 64)
def h0N : List UInt32 := [0x6a09e667, 0xbb67ae85, 0x3c6ef372, 0xa54ff53a, 0x510e527f, 0x9b05688c, 0x1f83d9ab, 0x5be0cd19]
def outN (h : List UInt32) : List UInt8 := (List.range 8).flatMap fun i => [(h.getD i 0 >>> 24).toUInt8, (h.getD i 0 >>> 16).toUInt8, (h.getD i 0 >>> 8).toUInt8, (h.getD i 0).toUInt8]
def shaN (b : List UInt8) : List UInt8 := outN (blocksGo (b.length + 100) h0N (padN b))
theorem shaN_len (b : List UInt8) : (shaN b).length = 32 := by simp [shaN, outN, List.range, List.range.loop]
theorem padN_len (b : List UInt8) : (padN b).length % 64 = 0 := by simp [padN]; omega
structure KeyN where
  alg : Int
  n : List UInt32
  e : UInt32
  x : List UInt32
  y : List UInt32
  inf : Bool
abbrev keyA (k : KeyN) : AV := .agg [.int .i64 k.alg, natA k.n, .int .u32 k.e.toNat, natA k.x, natA k.y, .bool k.inf]
end Go.AM
end
section
namespace Go.AM
inductive Nd where
  | mk (tag : UInt8) (body : List UInt8) (kids : List Nd)
  deriving Inhabited
mutual
def nodeA : Nd → AV
  | .mk t b k => .agg [byteA t, bytesA b, tsE 3 (nodesA k)]
def nodesA : List Nd → List AV
  | [] => []
  | x :: r => nodeA x :: nodesA r
end
theorem nodesA_eq : ∀ k : List Nd, nodesA k = k.map nodeA := by
  intro k
  induction k with
  | nil => rfl
  | cons x r ih => rw [nodesA, ih]; rfl
def Nd.tag : Nd → UInt8 | .mk t _ _ => t
def Nd.body : Nd → List UInt8 | .mk _ b _ => b
def Nd.kids : Nd → List Nd | .mk _ _ k => k
theorem nodeA_eq (n : Nd) : nodeA n = .agg [byteA n.tag, bytesA n.body, tsE 3 (n.kids.map nodeA)] := by
  cases n with
  | mk t b k => rw [nodeA, nodesA_eq]; rfl
attribute [go_sem] Nd.tag Nd.body Nd.kids
section
variable (n : Nd)
@[go_sem] theorem cellsOf_nodeA : cellsOf (nodeA n) = [byteA n.tag, bytesA n.body, tsE 3 (n.kids.map nodeA)] := by rw [nodeA_eq]; rfl
@[go_sem] theorem treeA_nodeA (σ : List Ob) : treeA σ (nodeA n) = nodeA n := by
  rw [nodeA_eq]
  simp only [treeA, List.map_cons, List.map_nil, treeC_tsE]
  rfl
@[go_sem] theorem treeT_nodeA (σ : List Ob) : treeT σ (nodeA n) = nodeA n := by
  have h : treeT σ (nodeA n) = treeA σ (nodeA n) := by rw [nodeA_eq]; rfl
  rw [h, treeA_nodeA]
@[go_sem] theorem okStore_nodeA : okStore (nodeA n) = true := by rw [nodeA_eq]; rfl
@[go_sem] theorem oneV_nodeA : oneV (nodeA n) = True := by rw [nodeA_eq]; rfl
@[go_sem] theorem toAgg_nodeA : toAgg (nodeA n) = nodeA n := by rw [nodeA_eq]; rfl
@[go_sem] theorem lowA_nodeA (N : Nat) : lowA N (nodeA n) = True := by rw [nodeA_eq, lowA_agg]; simp only [lowL, lowC_tsE, byteA, lowC_int, and_self]
@[go_sem] theorem lowA1_nodeA (N : Nat) : lowA1 N (nodeA n) = True := by rw [nodeA_eq, lowA1_agg]; simp only [lowL, lowC_tsE, byteA, lowC_int, and_self]
@[go_sem] theorem renA_nodeA (m : Nat → Nat) : renA m (nodeA n) = nodeA n := by
  rw [nodeA_eq, renA_agg]
  simp only [List.map_cons, List.map_nil, renC_tsE, byteA, renC_int]
@[go_sem] theorem renA1_nodeA (m : Nat → Nat) : renA1 m (nodeA n) = nodeA n := by
  rw [nodeA_eq, renA1_agg]
  simp only [List.map_cons, List.map_nil, renC_tsE, byteA, renC_int]
@[go_sem] theorem putPart_nodeA (v : AV) (off : Nat) : putPart v off (nodeA n) = if off = 0 ∧ (cellsOf v).length = 3 then nodeA n else .agg (splice (cellsOf v) off [byteA n.tag, bytesA n.body, tsE 3 (n.kids.map nodeA)]) := by rw [nodeA_eq]; rfl
@[go_sem] theorem nodes_app (k : List Nd) : k.map nodeA ++ [nodeA n] = (k ++ [n]).map nodeA := by rw [List.map_append]; rfl
end
theorem nodes_getD {k : List Nd} {i : Nat} (h : i < k.length) (d : AV) : (k.map nodeA).getD i d = nodeA (k.getD i default) := by simp [List.getD, h]
def tagN (t : UInt8) : Bool := t != 0 && (t &&& 31) != 31
def partN (t : UInt8) : Bool := (t &&& 0x20) != 0
mutual
def countN : Nd → Nat
  | .mk _ _ k => countsN k + 1
def countsN : List Nd → Nat
  | [] => 0
  | x :: r => countN x + countsN r
end
mutual
def soundN : Nd → Nat → Bool
  | .mk t b k, deep => !(!tagN t || decide (12 < deep) || (partN t && decide (0 < b.length)) || (!partN t && decide (0 < k.length))) && soundsN k (deep + 1)
def soundsN : List Nd → Nat → Bool
  | [], _ => true
  | x :: r, deep => soundN x deep && soundsN r deep
end
def bigGo : Nat → Nat → List UInt8 → List UInt8
  | 0, _, b => b
  | k + 1, x, b => if x = 0 then b else bigGo k (x / 256) (UInt8.ofNat (x % 256) :: b)
def lengthN (n : Nat) : List UInt8 := if n < 128 then [UInt8.ofNat n] else UInt8.ofNat (0x80 + (bigGo 8 n []).length) :: bigGo 8 n []
mutual
def laidN : Nd → List UInt8
  | .mk t b k => t :: (lengthN (b ++ laidsN k).length ++ (b ++ laidsN k))
def laidsN : List Nd → List UInt8
  | [] => []
  | x :: r => laidN x ++ laidsN r
end
theorem countsN_eq : ∀ k : List Nd, countsN k = (k.map countN).sum := by
  intro k
  induction k with
  | nil => rfl
  | cons x r ih => simp [countsN, ih]
theorem laidsN_eq : ∀ k : List Nd, laidsN k = k.flatMap laidN := by
  intro k
  induction k with
  | nil => rfl
  | cons x r ih => simp [laidsN, ih]
theorem soundsN_eq : ∀ (k : List Nd) (d : Nat), soundsN k d = k.all (soundN · d) := by
  intro k d
  induction k with
  | nil => rfl
  | cons x r ih => simp [soundsN, ih]
def isNd (n : Nd) : Bool := soundN n 1 && decide (countN n ≤ 600) && decide ((laidN n).length ≤ 12000)
def ndBytes (n : Nd) : List UInt8 := if isNd n then laidN n else []
def primN (t : UInt8) (b : List UInt8) : Nd := .mk t b []
def intN (a : List UInt32) : Nd := primN 2 (bytesN a (bitsN a / 8 + 1))
def smallN (v : UInt64) : Nd := intN (trimN [v.toUInt32, (v >>> 32).toUInt32])
def boolN (v : Bool) : Nd := primN 1 [if v then 0xff else 0]
def textN (s : List UInt8) : Nd := primN 0x0c s
def octetsN (b : List UInt8) : Nd := primN 4 b
def bits3N (b : List UInt8) : Nd := primN 3 (0 :: b)
def idN (b : List UInt8) : Nd := primN 6 b
def seqN (t : UInt8) (l : List Nd) : Nd := .mk t [] l
abbrev strA (s : List UInt8) : AV := .str ⟨s.toArray⟩
def isIDGo (b : List UInt8) : Nat → Nat → Bool
  | 0, _ => true
  | k + 1, i => if b.getD i 0 == 0x80 && (decide (i = 0) || decide (b.getD (i - 1) 0 < 0x80)) then false else isIDGo b k (i + 1)
def isIDN (b : List UInt8) : Bool := if b.length < 1 || 20 < b.length || (0x80 : UInt8) ≤ b.getD (b.length - 1) 0 then false else isIDGo b b.length 0
mutual
def sizeNd : Nd → Nat
  | .mk _ b k => 1 + b.length + sizesNd k
def sizesNd : List Nd → Nat
  | [] => 0
  | x :: r => sizeNd x + sizesNd r
end
theorem sizesNd_eq : ∀ k : List Nd, sizesNd k = (k.map sizeNd).sum := by
  intro k
  induction k with
  | nil => rfl
  | cons x r ih => simp [sizesNd, ih]
theorem bigGo_len : ∀ (k x : Nat) (b : List UInt8), (bigGo k x b).length ≤ k + b.length := by
  intro k
  induction k with
  | zero => intro x b; simp [bigGo]
  | succ k ih =>
    intro x b
    simp only [bigGo]
    split
    · omega
    · have := ih (x / 256) (UInt8.ofNat (x % 256) :: b)
      simp at this; omega
theorem lengthN_len (n : Nat) : (lengthN n).length ≤ 9 := by
  unfold lengthN
  split
  · simp
  · have := bigGo_len 8 n []
    simp at this ⊢; omega
theorem laidsN_len_of : ∀ {k : List Nd}, (∀ x ∈ k, (laidN x).length ≤ 10 * sizeNd x) → (laidsN k).length ≤ 10 * sizesNd k := by
  intro k
  induction k with
  | nil => intro _; exact Nat.le_refl _
  | cons x r ih =>
    intro h
    have h1 := h x (by simp)
    have h2 := ih fun y hy => h y (by simp [hy])
    simp only [laidsN, sizesNd, List.length_append]
    omega
theorem laidN_len : ∀ n : Nd, (laidN n).length ≤ 10 * sizeNd n := by
  intro n
  induction n using Nd.rec (motive_2 := fun k => ∀ x ∈ k, (laidN x).length ≤ 10 * sizeNd x) with
  | mk t b k ih =>
    have h1 := laidsN_len_of ih
    have h2 := lengthN_len (b ++ laidsN k).length
    simp only [laidN, sizeNd, List.length_cons, List.length_append] at *
    omega
  | nil => rename_i hx; simp at hx
  | cons x r h1 h2 =>
    rename_i y hy
    rcases List.mem_cons.1 hy with h | h
    · rw [h]; exact h1
    · exact h2 y h
theorem size_kid : ∀ {k : List Nd} {x : Nd}, x ∈ k → sizeNd x ≤ sizesNd k := by
  intro k
  induction k with
  | nil => intro x h; simp at h
  | cons y r ih =>
    intro x h
    simp only [sizesNd]
    rcases List.mem_cons.1 h with h | h
    · subst h; omega
    · have := ih h; omega
theorem size_get {t : UInt8} {b : List UInt8} {k : List Nd} {i : Nat} (h : i < k.length) : sizeNd (k.getD i default) < sizeNd (.mk t b k) := by
  have h1 : k.getD i default ∈ k := by simp [List.getD, h]
  have := size_kid h1
  simp only [sizeNd]; omega
theorem size_len : ∀ k : List Nd, k.length ≤ sizesNd k := by
  intro k
  induction k with
  | nil => simp
  | cons x r ih => cases x; simp only [sizesNd, sizeNd, List.length_cons]; omega
theorem count_le : ∀ n : Nd, countN n ≤ sizeNd n := by
  intro n
  induction n using Nd.rec (motive_2 := fun k => countsN k ≤ sizesNd k) with
  | mk t b k ih => simp only [countN, sizeNd]; omega
  | nil => exact Nat.le_refl _
  | cons x r h1 h2 => simp only [countsN, sizesNd]; omega
theorem counts_le : ∀ k : List Nd, countsN k ≤ sizesNd k := by
  intro k
  induction k with
  | nil => exact Nat.le_refl _
  | cons x r ih => have := count_le x; simp only [countsN, sizesNd]; omega
theorem counts_take : ∀ {k : List Nd} {i : Nat}, i < k.length → countsN (k.take (i + 1)) = countsN (k.take i) + countN (k.getD i default) := by
  intro k
  induction k with
  | nil => intro i h; simp at h
  | cons x r ih =>
    intro i h
    cases i with
    | zero => simp [countsN, List.getD]
    | succ i => have := ih (i := i) (by simpa using h); simp only [List.take_succ_cons, countsN, List.getD_cons_succ]; omega
theorem counts_take_le : ∀ (k : List Nd) (i : Nat), countsN (k.take i) ≤ countsN k := by
  intro k
  induction k with
  | nil => intro i; simp
  | cons x r ih =>
    intro i
    cases i with
    | zero => simp [countsN]
    | succ i => have := ih i; simp only [List.take_succ_cons, countsN]; omega
theorem laids_take : ∀ {k : List Nd} {i : Nat}, i < k.length → laidsN (k.take (i + 1)) = laidsN (k.take i) ++ laidN (k.getD i default) := by
  intro k
  induction k with
  | nil => intro i h; simp at h
  | cons x r ih =>
    intro i h
    cases i with
    | zero => simp [laidsN, List.getD]
    | succ i => have := ih (i := i) (by simpa using h); simp only [List.take_succ_cons, laidsN, List.getD_cons_succ, this, List.append_assoc]
theorem laids_len (k : List Nd) : (laidsN k).length ≤ 10 * sizesNd k := laidsN_len_of fun x _ => laidN_len x
theorem sizes_take_le : ∀ (k : List Nd) (i : Nat), sizesNd (k.take i) ≤ sizesNd k := by
  intro k
  induction k with
  | nil => intro i; simp
  | cons x r ih =>
    intro i
    cases i with
    | zero => simp [sizesNd]
    | succ i => have := ih i; simp only [List.take_succ_cons, sizesNd]; omega
theorem sounds_drop : ∀ {k : List Nd} {i d : Nat}, i < k.length → soundsN (k.drop i) d = (soundN (k.getD i default) d && soundsN (k.drop (i + 1)) d) := by
  intro k
  induction k with
  | nil => intro i d h; simp at h
  | cons x r ih =>
    intro i d h
    cases i with
    | zero => simp [soundsN, List.getD]
    | succ i => exact ih (i := i) (by simpa using h)
end Go.AM
end
section
namespace Go.AM
def longN (y : Nat) : Bool := (decide (y % 4 = 0) && decide (y % 100 ≠ 0)) || decide (y % 400 = 0)
def dmN (lg : Bool) (m : Nat) : Nat := if m = 2 ∧ lg = true then 29 else [31, 28, 31, 30, 31, 30, 31, 31, 30, 31, 30, 31].getD (m - 1) 0
def restD (lg : Bool) (m : Nat) : Nat := [365, 334, 306, 275, 245, 214, 184, 153, 122, 92, 61, 31, 0].getD (m - 1) 0 + (if lg = true ∧ m ≤ 2 then 1 else 0)
theorem restD_step (lg : Bool) {m : Nat} (h : 1 ≤ m) (h2 : m ≤ 12) : restD lg m = dmN lg m + restD lg (m + 1) := by
  have : m = 1 ∨ m = 2 ∨ m = 3 ∨ m = 4 ∨ m = 5 ∨ m = 6 ∨ m = 7 ∨ m = 8 ∨ m = 9 ∨ m = 10 ∨ m = 11 ∨ m = 12 := by omega
  rcases this with h | h | h | h | h | h | h | h | h | h | h | h <;> subst h <;> cases lg <;> rfl
theorem dm_le (lg : Bool) (m : Nat) (h : 1 ≤ m) (h2 : m ≤ 12) : dmN lg m ≤ 31 ∧ 28 ≤ dmN lg m := by
  have : m = 1 ∨ m = 2 ∨ m = 3 ∨ m = 4 ∨ m = 5 ∨ m = 6 ∨ m = 7 ∨ m = 8 ∨ m = 9 ∨ m = 10 ∨ m = 11 ∨ m = 12 := by omega
  rcases this with h | h | h | h | h | h | h | h | h | h | h | h <;> subst h <;> cases lg <;> decide
def yearGo : Nat → Nat → Nat → Nat × Nat
  | 0, d, y => (d, y)
  | k + 1, d, y => if 366 ≤ d ∨ (365 ≤ d ∧ longN y = false) then yearGo k (if longN y = true then d - 366 else d - 365) (y + 1) else (d, y)
def monthGo (lg : Bool) : Nat → Nat → Nat → Nat × Nat
  | 0, d, m => (d, m)
  | k + 1, d, m => if dmN lg m ≤ d then monthGo lg k (d - dmN lg m) (m + 1) else (d, m)
def dateN (s : Nat) : List Nat :=
  let p := yearGo (s / 86400) (s / 86400) 1950
  let q := monthGo (longN p.2) 13 p.1 1
  [p.2, q.2, q.1 + 1, s % 86400 / 3600, s % 86400 / 60 % 60, s % 86400 % 60]
def twoN (n : Nat) : List UInt8 := [UInt8.ofNat (48 + n / 10 % 10), UInt8.ofNat (48 + n % 10)]
def timeN (s : Nat) : Nd := .mk 0x17 ((dateN s).flatMap twoN ++ [90]) []
def intA (n : Nat) : AV := .int .i64 n
@[go_sem] theorem ints_getD (xs : List Nat) (i : Nat) : (xs.map intA).getD i (.int .i64 0) = .int .i64 (xs.getD i 0 : Nat) := map_getD intA xs i 0
@[go_sem] theorem ren_ints (m : Nat → Nat) (xs : List Nat) : (xs.map intA).map (renC m) = xs.map intA := map_same intA (renC m) (fun _ => rfl) xs
@[go_sem] theorem tree_ints (σ : List Ob) (xs : List Nat) : (xs.map intA).map (treeC σ) = xs.map intA := map_same intA (treeC σ) (fun _ => rfl) xs
@[go_sem] theorem refs_ints (xs : List Nat) : (xs.map intA).flatMap refsC = [] := by induction xs with | nil => rfl | cons x r ih => exact ih
@[go_sem] theorem low_ints (N : Nat) (xs : List Nat) : lowL N (xs.map intA) = True := by induction xs with | nil => rfl | cons x r ih => exact eq_true ⟨trivial, of_eq_true ih⟩
attribute [go_sem] intA
@[go_sem] theorem rep_12 {α : Type} (x : α) : List.replicate 12 x = [x, x, x, x, x, x, x, x, x, x, x, x] := rfl
theorem days_get {m : Nat} (h : 1 ≤ m) (h2 : m ≤ 12) (hn : m ≠ 2) (d : AV) : [AV.int .i64 31, .int .i64 28, .int .i64 31, .int .i64 30, .int .i64 31, .int .i64 30, .int .i64 31, .int .i64 31, .int .i64 30, .int .i64 31, .int .i64 30, .int .i64 31].getD (m - 1) d = .int .i64 (dmN false m : Nat) := by
  have : m = 1 ∨ m = 3 ∨ m = 4 ∨ m = 5 ∨ m = 6 ∨ m = 7 ∨ m = 8 ∨ m = 9 ∨ m = 10 ∨ m = 11 ∨ m = 12 := by omega
  rcases this with h | h | h | h | h | h | h | h | h | h | h <;> subst h <;> rfl
theorem days_get2 (d : AV) : [AV.int .i64 31, .int .i64 28, .int .i64 31, .int .i64 30, .int .i64 31, .int .i64 30, .int .i64 31, .int .i64 31, .int .i64 30, .int .i64 31, .int .i64 30, .int .i64 31].getD 1 d = .int .i64 28 := rfl
theorem dm_lg {lg : Bool} {m : Nat} (h : m ≠ 2) : dmN lg m = dmN false m := by unfold dmN; rw [if_neg (by simp [h]), if_neg (by simp)]
theorem yearGo_le : ∀ (k d y : Nat), (yearGo k d y).1 ≤ d ∧ (yearGo k d y).2 ≤ y + k := by
  intro k
  induction k with
  | zero => intro d y; exact ⟨Nat.le_refl _, Nat.le_refl _⟩
  | succ k ih =>
    intro d y
    simp only [yearGo]
    split
    · have h1 := ih (if longN y = true then d - 366 else d - 365) (y + 1)
      have h2 : (if longN y = true then d - 366 else d - 365) ≤ d := by split <;> omega
      omega
    · simp only; omega
theorem monthGo_le (lg : Bool) : ∀ (k d m : Nat), (monthGo lg k d m).1 ≤ d ∧ (monthGo lg k d m).2 ≤ m + k := by
  intro k
  induction k with
  | zero => intro d m; exact ⟨Nat.le_refl _, Nat.le_refl _⟩
  | succ k ih =>
    intro d m
    simp only [monthGo]
    split
    · have := ih (d - dmN lg m) (m + 1); omega
    · simp only; omega
theorem dateN_len (s : Nat) : (dateN s).length = 6 := by simp only [dateN, List.length_cons, List.length_nil]
theorem dateN_small {s : Nat} (hs : s ≤ 254033452799) : ∀ x ∈ dateN s, x < 10000000 := by
  intro x hx
  have h1 := yearGo_le (s / 86400) (s / 86400) 1950
  have h2 := monthGo_le (longN (yearGo (s / 86400) (s / 86400) 1950).2) 13 (yearGo (s / 86400) (s / 86400) 1950).1 1
  simp only [dateN, List.mem_cons, List.not_mem_nil, or_false] at hx
  rcases hx with h | h | h | h | h | h <;> subst h <;> omega
theorem two_len (n : Nat) : (twoN n).length = 2 := rfl
theorem twos_len : ∀ l : List Nat, (l.flatMap twoN).length = 2 * l.length := by
  intro l
  induction l with
  | nil => rfl
  | cons x r ih => simp only [List.flatMap_cons, List.length_append, ih, two_len, List.length_cons]; omega
theorem twos_take {l : List Nat} : ∀ {i : Nat}, i < l.length → (l.take (i + 1)).flatMap twoN = (l.take i).flatMap twoN ++ twoN (l.getD i 0) := by
  induction l with
  | nil => intro i h; simp at h
  | cons x r ih =>
    intro i h
    cases i with
    | zero => simp [List.getD]
    | succ i => have := ih (i := i) (by simpa using h); simp only [List.take_succ_cons, List.flatMap_cons, List.getD_cons_succ, this, List.append_assoc]
end Go.AM
end
section
namespace Go.AM
structure AtN where
  kind : Nat
  text : List UInt8
abbrev attrA (a : AtN) : AV := .agg [.int .i64 a.kind, strA a.text]
theorem attrs_getD {l : List AtN} {i : Nat} (h : i < l.length) (d : AV) : (l.map attrA).getD i d = attrA (l.getD i ⟨0, []⟩) := by simp [List.getD, h]
def okAt (a : AtN) : Prop := (a.kind = 3 ∨ a.kind = 6 ∨ a.kind = 10 ∨ a.kind = 11) ∧ a.text ≠ [] ∧ a.text.length ≤ 64 ∧ ∀ c ∈ a.text, c < 0x80
def atNd (a : AtN) : Nd := seqN 0x31 [seqN 0x30 [idN [0x55, 4, UInt8.ofNat a.kind], textN a.text]]
def dnNd (l : List AtN) : Nd := seqN 0x30 (l.map atNd)
structure ExN where
  id : List UInt8
  critical : Bool
  value : List UInt8
abbrev extA (x : ExN) : AV := .agg [bytesA x.id, .bool x.critical, bytesA x.value]
theorem exts_getD {l : List ExN} {i : Nat} (h : i < l.length) (d : AV) : (l.map extA).getD i d = extA (l.getD i ⟨[], false, []⟩) := by simp [List.getD, h]
def exNd (x : ExN) : Nd := seqN 0x30 ([idN x.id] ++ (if x.critical then [boolN true] else []) ++ [octetsN x.value])
def exsNd (l : List ExN) : Nd := seqN 0x30 (l.map exNd)
theorem toList_mk (s : List UInt8) : ByteArray.toList ⟨s.toArray⟩ = s := by
  have h : ∀ (n i : Nat) (r : List UInt8), s.length - i = n → ByteArray.toList.loop ⟨s.toArray⟩ i r = r.reverse ++ s.drop i := by
    intro n
    induction n with
    | zero =>
      intro i r h
      rw [ByteArray.toList.loop, if_neg (by simp [ByteArray.size]; omega)]
      rw [List.drop_eq_nil_iff.2 (by omega), List.append_nil]
    | succ n ih =>
      intro i r h
      rw [ByteArray.toList.loop, if_pos (by simp [ByteArray.size]; omega), ih (i + 1) _ (by omega)]
      have hi : i < s.length := by omega
      rw [List.drop_eq_getElem_cons hi]
      simp [ByteArray.get!, hi]
  exact (h s.length 0 [] (by omega)).trans (by simp)
attribute [go_sem] toList_mk
theorem size_prim (t : UInt8) (b : List UInt8) : sizeNd (primN t b) = 1 + b.length := by simp [primN, sizeNd, sizesNd]
theorem size_seq (t : UInt8) (l : List Nd) : sizeNd (seqN t l) = 1 + sizesNd l := by simp [seqN, sizeNd]
theorem size_int (a : List UInt32) : sizeNd (intN a) = 2 + bitsN a / 8 := by rw [intN, size_prim, bytesN_len]; omega
theorem size_small (v : UInt64) : sizeNd (smallN v) ≤ 10 := by
  have h1 := trimN_le [v.toUInt32, (v >>> 32).toUInt32]
  have h2 := bitsN_le (trimN [v.toUInt32, (v >>> 32).toUInt32])
  simp only [List.length_cons, List.length_nil] at h1
  rw [smallN, size_int]; omega
theorem size_bits3 (b : List UInt8) : sizeNd (bits3N b) = 2 + b.length := by rw [bits3N, size_prim]; simp; omega
theorem size_cons (n : Nd) (l : List Nd) : sizesNd (n :: l) = sizeNd n + sizesNd l := rfl
theorem size_nil : sizesNd [] = 0 := rfl
structure OkRsa (k : KeyN) : Prop where
  len : k.n.length ≤ 256
  x : k.x = []
  y : k.y = []
  inf : k.inf = false
  alg : k.alg = 1
  isn : isN k.n = true
  b1 : 512 ≤ bitsN k.n
  b2 : bitsN k.n ≤ 4096
  odd : k.n.getD 0 0 % 2 = 1
  e2 : k.e % 2 = 1
  e3 : 3 ≤ k.e
def idsN : Nd := seqN 0x30 [idN [0x2a, 0x86, 0x48, 0x86, 0xf7, 0x0d, 1, 1, 1], .mk 5 [] []]
def digitsN (k : KeyN) : List UInt8 := ndBytes (seqN 0x30 [intN k.n, smallN k.e.toUInt64])
def keyNd (k : KeyN) : Nd := seqN 0x30 [idsN, bits3N (digitsN k)]
theorem ndBytes_len (n : Nd) : (ndBytes n).length ≤ 12000 := by
  unfold ndBytes
  split
  · rename_i h
    simp only [isNd, Bool.and_eq_true, decide_eq_true_eq] at h
    exact h.2
  · simp
@[go_sem] theorem beq_nn : (([] : List UInt8) == []) = true := rfl
@[go_sem] theorem beq_cn (c : UInt8) (r : List UInt8) : ((c :: r) == []) = false := rfl
@[go_sem] theorem beq_nc (c : UInt8) (r : List UInt8) : (([] : List UInt8) == c :: r) = false := rfl
end Go.AM
end
section
namespace Go.AM
structure CeN where
  serial : List UInt32
  issuer : List AtN
  fr : Nat
  ti : Nat
  subject : List AtN
  key : KeyN
  exts : List ExN
  sig : List UInt8
abbrev certA (c : CeN) : AV := .agg [natA c.serial, tsE 2 (c.issuer.map attrA), .int .i64 ((c.fr : Int) - 631152000), .int .i64 ((c.ti : Int) - 631152000), tsE 2 (c.subject.map attrA),
  .int .i64 c.key.alg, natA c.key.n, .int .u32 c.key.e.toNat, natA c.key.x, natA c.key.y, .bool c.key.inf, tsE 3 (c.exts.map extA), bytesA c.sig]
structure OkCe (c : CeN) : Prop where
  s1 : isN c.serial = true
  s2 : 0 < c.serial.length
  s3 : bitsN c.serial < 160
  s4 : c.serial.length < 256
  i1 : 1 ≤ c.issuer.length
  i4 : c.issuer.length ≤ 4
  io : ∀ a ∈ c.issuer, okAt a
  u1 : 1 ≤ c.subject.length
  u4 : c.subject.length ≤ 4
  uo : ∀ a ∈ c.subject, okAt a
  f1 : c.fr ≤ 254033452799
  t1 : c.ti ≤ 254033452799
  ft : c.fr ≤ c.ti
  f2 : (dateN c.fr).getD 0 0 < 2050
  t2 : (dateN c.ti).getD 0 0 < 2050
  k : OkRsa c.key
  e : ∃ x, c.exts = [x] ∧ isIDN x.id = true ∧ x.id.length < 100 ∧ x.value.length ≤ 600
  g1 : 1 ≤ c.sig.length
  g2 : c.sig.length ≤ 600
def bodyNd (c : CeN) : Nd := seqN 0x30 [smallN 2, intN c.serial, dnNd c.issuer, seqN 0x30 [timeN c.fr, timeN c.ti], dnNd c.subject, keyNd c.key, exsNd c.exts]
def ceNd (c : CeN) : Nd := seqN 0x30 [bodyNd c, bits3N c.sig]
def ceDigest (c : CeN) : List UInt8 := shaN (ndBytes (bodyNd c))
theorem size_at {a : AtN} (h : okAt a) : sizeNd (atNd a) ≤ 100 := by
  obtain ⟨_, _, h3, _⟩ := h
  simp only [atNd, size_seq, size_cons, size_nil, idN, textN, size_prim, List.length_cons, List.length_nil]
  omega
theorem sizes_map {α : Type} (f : α → Nd) (B : Nat) : ∀ (l : List α), (∀ a ∈ l, sizeNd (f a) ≤ B) → sizesNd (l.map f) ≤ B * l.length := by
  intro l
  induction l with
  | nil => intro _; simp [sizesNd]
  | cons x r ih =>
    intro h
    have h1 := h x (by simp)
    have h2 := ih fun a ha => h a (by simp [ha])
    simp only [List.map_cons, sizesNd, List.length_cons, Nat.mul_add, Nat.mul_one]
    omega
theorem size_dn {l : List AtN} (h4 : l.length ≤ 4) (ho : ∀ a ∈ l, okAt a) : sizeNd (dnNd l) ≤ 500 := by
  have := sizes_map atNd 100 l fun a ha => size_at (ho a ha)
  rw [dnNd, size_seq]
  have : 100 * l.length ≤ 400 := by omega
  omega
theorem size_time (s : Nat) : sizeNd (timeN s) = 14 := by
  simp only [timeN, sizeNd, sizesNd, List.length_append, twos_len, dateN_len, List.length_cons, List.length_nil]
theorem size_ids : sizeNd idsN = 12 := rfl
theorem size_key (k : KeyN) : sizeNd (keyNd k) ≤ 12100 := by
  have := ndBytes_len (seqN 0x30 [intN k.n, smallN k.e.toUInt64])
  rw [keyNd, size_seq, size_cons, size_cons, size_nil, size_ids, size_bits3]
  unfold digitsN
  omega
theorem size_ex (x : ExN) : sizeNd (exNd x) ≤ 10 + x.id.length + x.value.length := by
  obtain ⟨id, cr, v⟩ := x
  cases cr <;> simp only [exNd, size_seq, idN, octetsN, boolN, if_true, if_false, List.cons_append, List.nil_append, size_cons, size_nil, size_prim, List.length_cons, List.length_nil, Bool.false_eq_true] <;> omega
theorem size_body {c : CeN} (h : OkCe c) : sizeNd (bodyNd c) ≤ 20000 := by
  obtain ⟨x, hx, h1, h2, h3⟩ := h.e
  have a1 := size_small 2
  have a2 := size_int c.serial
  have a3 := size_dn h.i4 h.io
  have a4 := size_time c.fr
  have a5 := size_time c.ti
  have a6 := size_dn h.u4 h.uo
  have a7 := size_key c.key
  have a8 := size_ex x
  have a9 := h.s3
  rw [bodyNd, hx, exsNd]
  simp only [size_seq, size_cons, size_nil, List.map_cons, List.map_nil]
  omega
theorem size_ce {c : CeN} (h : OkCe c) : sizeNd (ceNd c) ≤ 21000 := by
  have a1 := size_body h
  have a2 := size_bits3 c.sig
  have a3 := h.g2
  rw [ceNd, size_seq, size_cons, size_cons, size_nil]
  omega
end Go.AM
end
section
namespace Go.AM
structure EnN where
  path : List UInt8
  size : Nat
  digest : List UInt8
abbrev entA (x : EnN) : AV := .agg [strA x.path, .int .i64 x.size, bytesA x.digest]
theorem ents_getD {l : List EnN} {i : Nat} (h : i < l.length) (d : AV) : (l.map entA).getD i d = entA (l.getD i ⟨[], 0, []⟩) := by simp [List.getD, h]
def okEn (x : EnN) : Prop := x.path.length ≤ 64 ∧ (∀ c ∈ x.path, c < 0x80) ∧ x.size ≤ 600 ∧ x.digest.length = 32
structure MaN where
  name : List UInt8
  counter : UInt64
  files : List EnN
abbrev manA (m : MaN) : AV := .agg [strA m.name, .int .u64 m.counter.toNat, tsE 3 (m.files.map entA)]
structure OkMa (m : MaN) : Prop where
  n0 : m.name ≠ []
  n64 : m.name.length ≤ 64
  nc : ∀ c ∈ m.name, c < 0x80
  f12 : m.files.length ≤ 12
  fo : ∀ x ∈ m.files, okEn x
  up : ∀ i, i + 1 < m.files.length → Op.bytesLess (m.files.getD i ⟨[], 0, []⟩).path (m.files.getD (i + 1) ⟨[], 0, []⟩).path = true
def enNd (x : EnN) : Nd := seqN 0x30 [textN x.path, smallN (UInt64.ofNat x.size), octetsN x.digest]
def maNd (m : MaN) : Nd := seqN 0x30 [textN m.name, smallN m.counter, seqN 0x30 (m.files.map enNd)]
structure PkN where
  manifest : List UInt8
  sig : List UInt8
  cert : CeN
  files : List (List UInt8)
abbrev packA (p : PkN) : AV := .agg [bytesA p.manifest, bytesA p.sig, tsE 13 [certA p.cert], tsE 0 [], tsE 0 [], tsE 1 (p.files.map bytesA)]
theorem files_getD {l : List (List UInt8)} {i : Nat} (h : i < l.length) (d : AV) : (l.map bytesA).getD i d = bytesA (l.getD i []) := by simp [List.getD, h]
structure OkPk (p : PkN) : Prop where
  m : p.manifest.length ≤ 100000
  g1 : 1 ≤ p.sig.length
  g2 : p.sig.length ≤ 600
  c : OkCe p.cert
  f12 : p.files.length ≤ 12
  fo : ∀ x ∈ p.files, x.length ≤ 600
def pkNd (p : PkN) : Nd := seqN 0x30 [octetsN p.manifest, bits3N p.sig, seqN 0x30 [ceNd p.cert], seqN 0x30 [], seqN 0x30 [], seqN 0x30 (p.files.map octetsN)]
def pkBytes (p : PkN) : List UInt8 := if isNd (pkNd p) then ndBytes (pkNd p) else []
theorem size_octets (b : List UInt8) : sizeNd (octetsN b) = 1 + b.length := size_prim _ _
theorem size_pk {p : PkN} (h : OkPk p) : sizeNd (pkNd p) ≤ 200000 := by
  have a1 := size_ce h.c
  have a2 := size_bits3 p.sig
  have a3 := h.g2
  have a4 := h.m
  have a5 := sizes_map octetsN 601 p.files fun x hx => by rw [size_octets]; have := h.fo x hx; omega
  have a6 := h.f12
  rw [pkNd]
  simp only [size_seq, size_cons, size_nil, size_octets]
  have : 601 * p.files.length ≤ 601 * 12 := Nat.mul_le_mul_left _ a6
  omega
theorem size_en {x : EnN} (h : okEn x) : sizeNd (enNd x) ≤ 200 := by
  obtain ⟨h1, _, _, h4⟩ := h
  have a1 := size_small (UInt64.ofNat x.size)
  simp only [enNd, size_seq, size_cons, size_nil, size_octets, textN, size_prim]
  omega
theorem size_ma {m : MaN} (h : OkMa m) : sizeNd (maNd m) ≤ 10000 := by
  have a1 := sizes_map enNd 200 m.files fun x hx => size_en (h.fo x hx)
  have a2 := h.n64
  have a3 := size_small m.counter
  have a4 := h.f12
  simp only [maNd, size_seq, size_cons, size_nil, textN, size_prim]
  have : 200 * m.files.length ≤ 200 * 12 := Nat.mul_le_mul_left _ a4
  omega
end Go.AM
end
section
namespace Go.AM
open Go.ChangeShapes Go.WideShapes Go.ChangeAt Go.RowKit
def aggU (P : Program) (t : TypeId) : Bool := match P.underlying t with | some (.struct _) => true | _ => false
def elA (P : Program) (t : TypeId) (l : List AV) : AV := match aggU P t with | true => .agg l | false => l.getD 0 .undef
def tiles (P : Program) (N : Nat) : Nat → List Field → Bool
  | o, [] => o == N
  | o, f :: r => f.offset == o && tiles P N (o + P.cellsOf f.type) r
def plainT (P : Program) : Nat → TypeId → Bool
  | 0, _ => false
  | n + 1, t => match P.underlying t with
    | some .bool | some (.int _) | some .string => P.cellsOf t == 1
    | some (.slice e) => P.cellsOf t == 1 && plainT P n e && decide (1 ≤ P.cellsOf e)
    | some (.struct fs) => tiles P (P.cellsOf t) 0 fs.toList && fs.toList.all fun f => plainT P n f.type
    | _ => false
def TyL (P : Program) : Nat → TypeId → List AV → Prop
  | 0, _, _ => False
  | n + 1, t, as => match P.underlying t with
    | some .bool => ∃ b, as = [.bool b]
    | some (.int k) => ∃ m, as = [.int k m] ∧ (Lit.int k m).wf = true
    | some .string => ∃ s : ByteArray, as = [.str s] ∧ s.size ≤ maxLen
    | some (.slice e) => ∃ xs : List AV, as = [tsE (P.cellsOf e) xs] ∧ xs.length ≤ maxLen ∧ ∀ x ∈ xs, ∃ l, TyL P n e l ∧ x = elA P e l
    | some (.struct fs) => as.length = P.cellsOf t ∧ ∀ f ∈ fs.toList, TyL P n f.type ((as.drop f.offset).take (P.cellsOf f.type))
    | _ => False
def notAgg : AV → Bool
  | .agg _ | .tup _ | .undef => false
  | _ => true
theorem notAgg_tsE (e : Nat) (xs : List AV) : notAgg (tsE e xs) = true := by cases xs <;> rfl
def FzW (w : World) (b : Nat) : Prop := b < w.heap.size
section
variable {H : Type} {enc : TypeId × Value → H} {P : Program} {w : World} {spare : Nat → Bool} {held : Bool}
def GoodL (P : Program) (w : World) (n : Nat) (t : TypeId) (cs : List Value) (as : List AV) : Prop :=
  TyL P n t as ∧ as.length = cs.length ∧ (∀ a ∈ as, notAgg a = true) ∧ ∀ j, j < cs.length → CR w (FzW w) (cs.getD j .nilIface) (as.getD j .undef)
theorem good_one {n : Nat} {t : TypeId} {v : Value} {a : AV} (h : TyL P n t [a]) (hn : notAgg a = true) (hc : CR w (FzW w) v a) : GoodL P w n t [v] [a] :=
  ⟨h, rfl, fun x hx => by simp at hx; subst hx; exact hn, fun j hj => by simp at hj; subst hj; exact hc⟩
theorem fields_good {n N : Nat} {cs : List Value} : ∀ (fs : List Field) (o : Nat), tiles P N o fs = true → N = cs.length → o ≤ N →
    (∀ f ∈ fs, ((cs.drop f.offset).take (P.cellsOf f.type)).length = P.cellsOf f.type ∧ ∃ as, GoodL P w n f.type ((cs.drop f.offset).take (P.cellsOf f.type)) as) →
    ∃ as : List AV, as.length = N - o ∧ (∀ f ∈ fs, o ≤ f.offset ∧ TyL P n f.type ((as.drop (f.offset - o)).take (P.cellsOf f.type))) ∧ (∀ a ∈ as, notAgg a = true) ∧ ∀ j, j < N - o → CR w (FzW w) (cs.getD (o + j) .nilIface) (as.getD j .undef) := by
  intro fs
  induction fs with
  | nil =>
    intro o ht hN _ _
    simp only [tiles, beq_iff_eq] at ht
    subst ht
    exact ⟨[], by simp, by simp, by simp, fun j hj => by omega⟩
  | cons f r ih =>
    intro o ht hN hoN h
    simp only [tiles, Bool.and_eq_true, beq_iff_eq] at ht
    obtain ⟨hfo, ht⟩ := ht
    obtain ⟨hlen, as1, h1, h2, h3, h4⟩ := h f (by simp)
    rw [hlen] at h2 h4
    have hle : o + P.cellsOf f.type ≤ N := by
      rw [List.length_take, List.length_drop] at hlen; omega
    obtain ⟨as2, k1, k2, k3, k4⟩ := ih (o + P.cellsOf f.type) ht hN hle (fun g hg => h g (by simp [hg]))
    refine ⟨as1 ++ as2, by simp; omega, fun g hg => ?_, fun a ha => ?_, fun j hj => ?_⟩
    · rcases List.mem_cons.1 hg with hg | hg
      · subst hg
        refine ⟨by omega, ?_⟩
        rw [hfo, Nat.sub_self, List.drop_zero, List.take_left' h2]
        exact h1
      · obtain ⟨hg1, hg2⟩ := k2 g hg
        refine ⟨by omega, ?_⟩
        rw [show g.offset - o = as1.length + (g.offset - (o + P.cellsOf f.type)) by omega, List.drop_append]
        rw [List.drop_eq_nil_of_le (by omega), List.nil_append, Nat.add_sub_cancel_left]
        exact hg2
    · rcases List.mem_append.1 ha with ha | ha
      · exact h3 a ha
      · exact k3 a ha
    · by_cases hjl : j < P.cellsOf f.type
      · have := h4 j hjl
        have e1 : ((cs.drop f.offset).take (P.cellsOf f.type)).getD j .nilIface = cs.getD (o + j) .nilIface := by
          simp [List.getD, List.getElem?_take, hjl, hfo]
        have e2 : (as1 ++ as2).getD j .undef = as1.getD j .undef := by simp [List.getD, List.getElem?_append_left (show j < as1.length by omega)]
        rw [e1] at this
        rw [e2]; exact this
      · have := k4 (j - P.cellsOf f.type) (by omega)
        have e2 : (as1 ++ as2).getD j .undef = as2.getD (j - P.cellsOf f.type) .undef := by simp only [List.getD]; rw [List.getElem?_append_right (by omega), h2]
        rw [e2]
        rw [show o + P.cellsOf f.type + (j - P.cellsOf f.type) = o + j by omega] at this
        exact this
theorem open_plain : ∀ (n : Nat) (t : TypeId) (fuel : Nat) (cs : List Value) (x : DataW H × List MemPlace), plainT P n t = true → DataW.trod enc P w 0 spare held fuel t cs = some x → cs.length = P.cellsOf t ∧ ∃ as, GoodL P w n t cs as := by
  intro n
  induction n with
  | zero => intro t fuel cs x h; cases h
  | succ n ih =>
    intro t fuel cs x hp h
    unfold plainT at hp
    split at hp
    · rename_i hu
      obtain ⟨b, rfl, _⟩ := DataW.trod_bool hu h
      rw [beq_iff_eq] at hp
      exact ⟨by simp [hp], _, good_one (by simp only [TyL, hu]; exact ⟨b, rfl⟩) rfl (.bool b)⟩
    · rename_i k hu
      obtain ⟨m, rfl, _, hw⟩ := DataW.trod_int hu h
      rw [beq_iff_eq] at hp
      exact ⟨by simp [hp], _, good_one (by simp only [TyL, hu]; exact ⟨m, rfl, hw⟩) rfl (.int k m)⟩
    · rename_i hu
      obtain ⟨s, rfl, _, hw⟩ := DataW.trod_string hu h
      rw [beq_iff_eq] at hp
      exact ⟨by simp [hp], _, good_one (by simp only [TyL, hu]; exact ⟨s, rfl, hw⟩) rfl (.str s)⟩
    · rename_i e hu
      simp only [Bool.and_eq_true, beq_iff_eq, decide_eq_true_eq] at hp
      obtain ⟨⟨hc, hpe⟩, he1⟩ := hp
      rcases DataW.trod_slice hu h with ⟨rfl, _⟩ | ⟨a, len, cap, elems, rest, m, _, rfl, _, _, hl, hm, hlen, hel, _, _⟩
      · exact ⟨by simp [hc], _, good_one (a := tsE (P.cellsOf e) []) (by simp only [TyL, hu]; exact ⟨[], rfl, by simp, fun x hx => by cases hx⟩) rfl (.ts0 _ _ _)⟩
      · rcases Nat.eq_zero_or_pos len with h0 | h0
        · subst h0
          exact ⟨by simp [hc], _, good_one (a := tsE (P.cellsOf e) []) (by simp only [TyL, hu]; exact ⟨[], rfl, by simp, fun x hx => by cases hx⟩) rfl (.ts0 _ _ _)⟩
        · have hrow : ∀ i, i < len → ∃ cs', w.cells? 0 (a.add (i * P.cellsOf e)) (P.cellsOf e) = some cs' ∧ ∃ as, GoodL P w n e cs' as := fun i hi => by
            have h1 := hel i hi
            rw [List.getElem?_eq_getElem (by omega)] at h1
            obtain ⟨cs', h2, h3⟩ := Option.bind_eq_some_iff.1 h1
            exact ⟨cs', h2, (ih e m cs' _ hpe h3).2⟩
          obtain ⟨C, hC⟩ := Go.Deep.choose_lt (α := List Value) hrow
          obtain ⟨A, hA⟩ := Go.Deep.choose_lt (α := List AV) fun i hi => (hC i hi).2
          have hcell : ∀ i c, i < len → c < P.cellsOf e → w.cell? ((a.add (i * P.cellsOf e)).add c) = some ((C i).getD c .nilIface) := fun i c hi hc => by
            obtain ⟨_, h2, h3⟩ := World.cells?_some (hC i hi).1
            rw [h3 c hc]
            simp [List.getD, show c < (C i).length by omega]
          have hCl : ∀ i, i < len → (C i).length = P.cellsOf e := fun i hi => (World.cells?_some (hC i hi).1).2.1
          obtain ⟨ab, ao, asp⟩ := a
          have hc0 := hcell 0 0 h0 (by omega)
          simp only [Nat.zero_mul, Addr.add, if_true] at hc0
          obtain ⟨arr, ty, fr, hheap, hspot⟩ : ∃ arr ty fr, w.heap[ab]? = some (.cells arr ty fr) ∧ asp = none := by
            unfold World.cell? at hc0
            simp only at hc0
            cases hh : w.heap[ab]? with
            | none => simp [hh] at hc0
            | some o =>
              cases o with
              | cells c ty fr =>
                simp only [hh] at hc0
                cases asp with
                | none => exact ⟨c, ty, fr, rfl, rfl⟩
                | some s => simp at hc0
              | _ => simp [hh] at hc0
          subst hspot
          have hadd : ∀ k c, ((⟨ab, ao, none⟩ : Addr).add k).add c = ⟨ab, ao + (k + c), none⟩ := fun k c => by
            unfold Addr.add
            by_cases hk : k = 0 <;> by_cases hcc : c = 0 <;> simp [hk, hcc, Nat.add_assoc]
          have harr : ∀ i c, i < len → c < P.cellsOf e → arr[ao + (i * P.cellsOf e + c)]? = some ((C i).getD c .nilIface) := fun i c hi hc => by
            have := hcell i c hi hc
            rw [hadd] at this
            simpa [World.cell?, hheap] using this
          have hb : blk w ab = some arr := by simp [blk, hheap]
          have hAl : ∀ i, i < len → (A i).length = P.cellsOf e := fun i hi => (hA i hi).2.1.trans (hCl i hi)
          have hcl : ∀ i, i < len → cellsOf (elA P e (A i)) = A i := fun i hi => by
            unfold elA
            cases hag : aggU P e with
            | true => rfl
            | false =>
              have hlen1 : (A i).length = 1 := by
                have ht := (hA i hi).1
                cases n with
                | zero => exact ht.elim
                | succ n =>
                  unfold TyL at ht
                  unfold aggU at hag
                  split at ht
                  · obtain ⟨b, e⟩ := ht; simp [e]
                  · obtain ⟨b, e, _⟩ := ht; simp [e]
                  · obtain ⟨b, e, _⟩ := ht; simp [e]
                  · obtain ⟨b, e, _⟩ := ht; simp [e]
                  · rename_i hu2; simp [hu2] at hag
                  · exact ht.elim
              obtain ⟨v, hv⟩ := List.length_eq_one_iff.1 hlen1
              have hna := (hA i hi).2.2.1 v (by simp [hv])
              rw [hv]
              simp only [List.getD_cons_zero]
              cases v <;> first | rfl | cases hna
          let xs := (List.range len).map fun i => elA P e (A i)
          have hxl : xs.length = len := by simp [xs]
          have hxg : ∀ i, i < len → xs.getD i .undef = elA P e (A i) := fun i hi => by simp [xs, List.getD, hi]
          refine ⟨by simp [hc], [tsE (P.cellsOf e) xs], good_one ?_ (notAgg_tsE _ _) (CR.tsE ?_)⟩
          · simp only [TyL, hu]
            refine ⟨xs, rfl, by omega, fun x hx => ?_⟩
            obtain ⟨i, hi, rfl⟩ := List.mem_map.1 hx
            exact ⟨A i, (hA i (List.mem_range.1 hi)).1, rfl⟩
          · refine CR.ts arr (Array.getElem?_eq_some_iff.1 hheap).1 hb hxl hl ?_ (fun j hj => ?_) (fun j c hj hc => ?_)
            · have h1 := (Array.getElem?_eq_some_iff.1 (harr (len - 1) (P.cellsOf e - 1) (by omega) (by omega))).1
              have h2 : (len - 1) * P.cellsOf e + P.cellsOf e = len * P.cellsOf e := by
                rw [← Nat.succ_mul, show (len - 1).succ = len by omega]
              omega
            · rw [hxl] at hj
              rw [hxg j hj, hcl j hj]; exact hAl j hj
            · rw [hxl] at hj
              rw [hxg j hj, hcl j hj]
              have h1 := harr j c hj hc
              have e1 : arr.getD (ao + j * P.cellsOf e + c) .nilIface = (C j).getD c .nilIface := by
                rw [Array.getD_eq_getD_getElem?, show ao + j * P.cellsOf e + c = ao + (j * P.cellsOf e + c) by omega, h1]; rfl
              rw [e1]
              exact (hA j hj).2.2.2 c (by rw [hCl j hj]; exact hc)
    · rename_i fs hu
      simp only [Bool.and_eq_true, List.all_eq_true] at hp
      obtain ⟨xs, m, _, _, hlen, _, hf⟩ := DataW.trod_struct hu h
      have hff : ∀ f ∈ fs.toList, ((cs.drop f.offset).take (P.cellsOf f.type)).length = P.cellsOf f.type ∧ ∃ as, GoodL P w n f.type ((cs.drop f.offset).take (P.cellsOf f.type)) as := fun f hfm => by
        obtain ⟨i, hi, he⟩ := List.getElem_of_mem hfm
        have h1 := hf i f (by rw [← he]; simp)
        have hxl : i < xs.length := by simp at hi; omega
        rw [List.getElem?_eq_getElem hxl] at h1
        exact ih f.type m _ _ (hp.2 f hfm) h1
      obtain ⟨as, k1, k2, k3, k4⟩ := fields_good fs.toList 0 hp.1 hlen.symm (Nat.zero_le _) hff
      refine ⟨hlen, as, ?_, by omega, k3, fun j hj => ?_⟩
      · simp only [TyL, hu]
        exact ⟨by simpa using k1, fun f hfm => (k2 f hfm).2⟩
      · have := k4 j (by omega)
        rwa [Nat.zero_add] at this
    · cases hp
end
def TyA (P : Program) (n : Nat) (t : TypeId) (a : AV) : Prop := ∃ l, TyL P n t l ∧ a = elA P t l
theorem open_arg {H : Type} {enc : TypeId × Value → H} {P : Program} {w : World} {n : Nat} {t : TypeId} {v : Value} {d : DataW H} {ps : List MemPlace} (hp : plainT P n t = true)
    (h : DataW.Trod enc P w 0 (fun _ => true) true t v d ps) (hok : Value.okWide P w .any 0 t v) : ∃ a, TyA P n t a ∧ VR w (FzW w) (fun _ => (0, 0)) 0 v a := by
  obtain ⟨fuel, hf⟩ := h
  obtain ⟨hcl, as, h1, h2, h3, h4⟩ := open_plain n t fuel _ _ hp hf
  refine ⟨elA P t as, ⟨as, h1, rfl⟩, ?_⟩
  unfold elA
  cases hag : aggU P t with
  | true =>
    unfold aggU at hag
    split at hag
    · rename_i fs hu
      unfold Value.okWide at hok
      rw [hu] at hok
      obtain ⟨cs, rfl, hsz, _⟩ := hok
      simp only [Value.cells] at h2 h4
      refine ⟨cs, rfl, by simpa using h2.symm, fun j hj => .cr ?_⟩
      have := h4 j (by simp at h2 ⊢; omega)
      have e1 : cs.toList.getD j .nilIface = cs.getD j .nilIface := by simp [List.getD, Array.getD_eq_getD_getElem?]
      rwa [e1] at this
    · cases hag
  | false =>
    have hlen1 : as.length = 1 := by
      cases n with
      | zero => exact h1.elim
      | succ n =>
        unfold TyL at h1
        unfold aggU at hag
        split at h1
        · obtain ⟨b, e⟩ := h1; simp [e]
        · obtain ⟨b, e, _⟩ := h1; simp [e]
        · obtain ⟨b, e, _⟩ := h1; simp [e]
        · obtain ⟨b, e, _⟩ := h1; simp [e]
        · rename_i hu2; simp [hu2] at hag
        · exact h1.elim
    obtain ⟨a, rfl⟩ := List.length_eq_one_iff.1 hlen1
    have hna := h3 a (by simp)
    have hc := h4 0 (by omega)
    simp only [List.getD_cons_zero] at hc ⊢
    have hv : v.cells.toList.getD 0 .nilIface = v := by
      have hna2 : ∀ cs, v ≠ .agg cs := fun cs e => by
        subst e
        cases n with
        | zero => exact h1.elim
        | succ n =>
          unfold TyL at h1
          unfold aggU at hag
          unfold Value.okWide Cell.okWide Cell.ok at hok
          split at h1
          all_goals first
            | exact h1.elim
            | (rename_i hu; simp [hu] at hok; done)
            | (rename_i hu; simp [hu] at hag; done)
      cases v <;> first | rfl | exact absurd rfl (hna2 _)
    rw [hv] at hc
    cases a <;> first | (simp [notAgg] at hna; done) | exact VC.cr hc
theorem open_args {H : Type} {enc : TypeId × Value → H} {P : Program} {w : World} {n : Nat} : ∀ {ts : List TypeId} {vs : List Value} {ds : List (DataW H)} {ps : List MemPlace}, (ts.all fun t => plainT P n t) = true →
    DataW.TrodAll enc P w 0 (fun _ => true) true ts vs ds ps → (∀ (j : Nat) t v, ts[j]? = some t → vs[j]? = some v → Value.okWide P w .any 0 t v) →
    vs.length = ts.length ∧ ds.length = ts.length ∧ ∃ as : List AV, as.length = ts.length ∧ (∀ j, j < ts.length → TyA P n (ts.getD j 0) (as.getD j .undef)) ∧ ∀ j, j < ts.length → VR w (FzW w) (fun _ => (0, 0)) 0 (vs.getD j .nilIface) (as.getD j .undef) := by
  intro ts
  induction ts with
  | nil =>
    intro vs ds ps _ h _
    obtain ⟨rfl, rfl, rfl⟩ := trodAll_nil h
    exact ⟨rfl, rfl, [], rfl, by simp, by simp⟩
  | cons t ts ih =>
    intro vs ds ps hp h hok
    obtain ⟨v, vs1, d, ds1, p, q, rfl, rfl, rfl, h1, h2⟩ := trodAll_cons h
    simp only [List.all_cons, Bool.and_eq_true] at hp
    obtain ⟨a, ha, hv⟩ := open_arg hp.1 h1 (hok 0 t v rfl rfl)
    obtain ⟨k0, k1, as, k2, k3, k4⟩ := ih hp.2 h2 (fun j t v ht hv => hok (j + 1) t v (by simpa using ht) (by simpa using hv))
    refine ⟨by simp [k0], by simp [k1], a :: as, by simp [k2], fun j hj => ?_, fun j hj => ?_⟩
    · cases j with
      | zero => exact ha
      | succ j => exact k3 j (by simpa using hj)
    · cases j with
      | zero => exact hv
      | succ j => exact k4 j (by simpa using hj)
theorem same_args {H : Type} {enc : TypeId × Value → H} {P : Program} {W W' : World} (hl : laidOutB P = true) (hb : Below W.heap.size W W') : ∀ {ts : List TypeId} {vs : List Value} {ds : List (DataW H)} {ps : List MemPlace},
    (ts.all fun t => P.readableRec t && decide (t < P.types.size)) = true → DataW.TrodAll enc P W 0 (fun _ => true) true ts vs ds ps → (∀ x ∈ ps, x.block < W.heap.size) →
    DataW.TrodAll enc P W' 0 (fun b => decide (b < W.heap.size)) true ts vs ds ps := by
  intro ts
  induction ts with
  | nil =>
    intro vs ds ps _ h _
    obtain ⟨rfl, rfl, rfl⟩ := trodAll_nil h
    exact trodAll_mk0
  | cons t ts ih =>
    intro vs ds ps hp h hlt
    obtain ⟨v, vs1, d, ds1, p, q, rfl, rfl, rfl, h1, h2⟩ := trodAll_cons h
    simp only [List.all_cons, Bool.and_eq_true, decide_eq_true_eq] at hp
    exact ⟨p, q, Below.trod hl hp.1.1 hp.1.2 h1 hb (fun x hx => hlt x (by simp [hx])), ih hp.2 h2 (fun x hx => hlt x (by simp [hx])), rfl⟩
theorem law_contract {H : Type} {enc : TypeId × Value → H} {P : Program} {f : FuncId} {fn : Func} {s : ChangeSpec} {n : Nat} {ts : List TypeId} {tb : TypeId} (hts : fn.params.toList = ts) (hl : laidOutB P = true) (hr : fn.resultTypes = #[tb]) (hb : P.underlying tb = some .bool)
    (hty : (ts.all fun t => plainT P n t) = true) (hty2 : (ts.all fun t => P.readableRec t && decide (t < P.types.size)) = true) (hv : s.vars = [])
    (hfn : ∀ (H : Type) (ds : List (DataW H)), ds.length = ts.length → s.fn H ds = { results := [.lit (.bool true)], args := ds })
    (W : World) (args : Array Value) (ds gs : List (DataW H)) (before : List MemPlace) (hval : ∀ (j : Nat) t v, fn.params[j]? = some t → args[j]? = some v → Value.okWide P W .any 0 t v)
    (hW : DataW.Whole enc P fn.params.toList s.vars false W args.toList ds gs before)
    (hp : ∀ as : List AV, as.length = ts.length → (∀ j, j < ts.length → TyA P n (ts.getD j 0) (as.getD j .undef)) → Pure P f as (.bool true)) :
    Calls P f args W fun e W' => ∃ v, e = .returned v ∧ s.post enc P fn false true false false W args v W' := by
  have hW' := hW
  obtain ⟨p, q, hA, hV, rfl, hfz, hnd⟩ := hW
  rw [hv] at hV
  obtain ⟨rfl, rfl⟩ := trodVars_none hV
  rw [hts] at hA
  obtain ⟨k0, k1, as, k2, k3, k4⟩ := open_args hty hA (fun j t v ht hv => hval j t v (by rw [← hts] at ht; simpa using ht) (by simpa using hv))
  have hvl : args.size = ts.length := by simpa using k0
  refine ((hp as k2 k3).2 W (FzW W) args (fun b hb => hb) (by omega) (fun j hj => ?_)).mono ?_
  · have := k4 j (by omega)
    have e1 : args.toList.getD j .nilIface = args.getD j .nilIface := by simp [List.getD, Array.getD_eq_getD_getElem?]
    rwa [e1] at this
  · rintro e W' ⟨v, Fz', rfl, hv1, hr1, hx⟩
    have hvb : v = .bool true := VR.bool_iff.1 hv1
    subst hvb
    have hB : Below W.heap.size W W' := ⟨hx.os, hx.tape, hx.output, hx.size, fun k hk => hx.keep k hk (fun id hi => by cases hi)⟩
    have hlt : ∀ x ∈ p, x.block < W.heap.size := fun x hx => hW'.lt x (by simp [hx])
    have hsf : s.fn H (ds ++ []) = { results := [.lit (.bool true)], args := ds } := by rw [List.append_nil]; exact hfn H ds k1
    refine ⟨_, rfl, ds, [], p ++ [], [], p, [], hW', ?_, ?_, ?_, hB.frame _, fun h => by cases h⟩
    · rw [hsf, hr]
      exact ⟨[], [], ⟨1, by simp [DataW.trod, hb, Value.cells]⟩, rfl, rfl⟩
    · rw [hsf, hts]
      exact same_args hl hB hty2 hA hlt
    · rw [hv, hsf]; rfl
theorem goes_none {P : Program} (h : P.funcs.any Func.goes = false) (f : FuncId) : P.goes f = false := by
  unfold Program.goes
  rw [h, Bool.and_false, Bool.or_false]
  rw [← Bool.not_eq_true]
  intro hc
  rw [List.any_eq_true] at hc
  obtain ⟨g, _, hg⟩ := hc
  cases hf : P.funcs[g]? with
  | none => simp [hf] at hg
  | some fn =>
    rw [hf] at hg
    have hm : fn ∈ P.funcs := Array.mem_of_getElem? hf
    have : P.funcs.any Func.goes = true := by
      rw [Array.any_eq_true']; exact ⟨fn, hm, by simpa using hg⟩
    rw [h] at this; cases this
theorem goesBy_none {P : Program} {c : OpenClaim} (h : P.funcs.any Func.goes = false) (hs : c.start = .entering) : false = c.goesBy P := by
  unfold OpenClaim.goesBy Program.goesAt Program.goesFrom
  rw [hs]
  cases hf : P.funcNamed c.func with
  | none => rfl
  | some f => simp [goes_none h f]
end Go.AM
end
