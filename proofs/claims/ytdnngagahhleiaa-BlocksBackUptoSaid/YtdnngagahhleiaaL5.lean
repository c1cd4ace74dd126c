/- Plain law: how many bytes a number has; rooms; how a block is cut. -/
import Derived.Lib.BitFns
namespace Go.Proofs.Ytdnngagahhleiaa
set_option linter.unusedVariables false
set_option linter.unusedSimpArgs false
/-- how many digits to the base 128. -/
def sz (n : Nat) : Nat := if h : n < 128 then 1 else sz (n / 128) + 1
termination_by n
decreasing_by omega
theorem sz_lt {n : Nat} (h : n < 128) : sz n = 1 := by rw [sz, dif_pos h]
theorem sz_ge {n : Nat} (h : 128 ≤ n) : sz n = sz (n / 128) + 1 := by rw [sz, dif_neg (by omega)]
theorem sz_pos (n : Nat) : 1 ≤ sz n := by
  by_cases h : n < 128
  · rw [sz_lt h]; exact Nat.le_refl _
  · rw [sz_ge (by omega)]; omega
theorem sz_bits : ∀ (n : Nat), n < 2 ^ 64 → max 1 ((Lib.bitLen n + 6) / 7) = sz n := by
  intro n
  induction n using Nat.strongRecOn with
  | _ n ih =>
    intro hn
    by_cases h : n < 128
    · have := Lib.bitLen_le n 7 (by omega) h
      rw [sz_lt h]; omega
    · rw [sz_ge (by omega), ← ih (n / 128) (by omega) (by omega), Lib.bitLen_shift 7 n (by omega) hn]
      have : 1 ≤ Lib.bitLen (n / 2 ^ 7) ∨ n / 128 = 0 := by
        rcases Nat.eq_zero_or_pos (n / 128) with h0 | h0
        · exact .inr h0
        · refine .inl ?_
          have h2 := Lib.bitLen_half (n / 2 ^ 7) (by simpa using Nat.ne_of_gt h0) (by have : n / 2 ^ 7 ≤ n := Nat.div_le_self _ _; omega)
          omega
      have h5 : n / 2 ^ 7 = n / 128 := rfl
      rw [h5] at this ⊢
      omega
theorem sz_mono : ∀ (b a : Nat), a ≤ b → sz a ≤ sz b := by
  intro b
  induction b using Nat.strongRecOn with
  | _ b ih =>
    intro a hab
    by_cases ha : a < 128
    · rw [sz_lt ha]; exact sz_pos b
    · rw [sz_ge (by omega : 128 ≤ a), sz_ge (by omega : 128 ≤ b)]
      have := ih (b / 128) (by omega) (a / 128) (Nat.div_le_div_right hab)
      omega
theorem sz_le : ∀ (k n : Nat), n < 128 ^ (k + 1) → sz n ≤ k + 1
  | 0, n, h => by rw [sz_lt (by simpa using h)]; exact Nat.le_refl _
  | k + 1, n, h => by
    by_cases hn : n < 128
    · rw [sz_lt hn]; omega
    · rw [sz_ge (by omega)]
      have := sz_le k (n / 128) (by rw [Nat.div_lt_iff_lt_mul (by decide)]; rw [Nat.pow_succ] at h; exact h)
      omega
/-! ### rooms -/
def rm (h m : Nat) : Nat → Nat
  | 0 => 0
  | n + 1 => if h + sz (n + 1) + (n + 1) ≤ m then n + 1 else rm h m n
def room (h m : Nat) : Nat := rm h m (m - h)
def IsRoom (h m r : Nat) : Prop := (r = 0 ∨ h + sz r + r ≤ m) ∧ m < h + sz (r + 1) + (r + 1)
theorem rm_spec (h m : Nat) : ∀ n, m < h + sz (n + 1) + (n + 1) → IsRoom h m (rm h m n)
  | 0, hn => ⟨.inl rfl, hn⟩
  | n + 1, hn => by
    rw [rm]
    by_cases h1 : h + sz (n + 1) + (n + 1) ≤ m
    · rw [if_pos h1]; exact ⟨.inr h1, hn⟩
    · rw [if_neg h1]; exact rm_spec h m n (by omega)
theorem room_is (h m : Nat) : IsRoom h m (room h m) := rm_spec h m _ (by have := sz_pos (m - h + 1); omega)
theorem room_uniq {h m r : Nat} (hr : IsRoom h m r) : r = room h m := by
  obtain ⟨a1, a2⟩ := hr
  obtain ⟨b1, b2⟩ := room_is h m
  rcases Nat.lt_trichotomy r (room h m) with hlt | heq | hgt
  · have := sz_mono (room h m) (r + 1) hlt
    rcases b1 with b1 | b1 <;> omega
  · exact heq
  · have := sz_mono r (room h m + 1) hgt
    rcases a1 with a1 | a1 <;> omega
theorem room_le (h m : Nat) : room h m ≤ m := by
  obtain ⟨a1, a2⟩ := room_is h m
  rcases a1 with a1 | a1 <;> omega
theorem room_pos {h m : Nat} (hh : h ≤ 56) (hm : 80 ≤ m) : 20 ≤ room h m := by
  obtain ⟨a1, a2⟩ := room_is h m
  by_cases hr : room h m < 127
  · rw [sz_lt (by omega)] at a2
    omega
  · omega
/-! ### parcels, pieces -/
structure Prc where
  svc : Int
  size : Int
  red : Int
  mtu : Int
  every : Int
abbrev Ses := Int × Int
/-- type, from, to, check, report. -/
structure Pce where
  ty : Int
  fr : Int
  to : Int
  ck : Int
  rp : Int
  deriving DecidableEq
def numB (n : Int) : Bool := decide (0 ≤ n ∧ n ≤ 4611686018427387903)
def sesB (s : Ses) : Bool := decide (1 ≤ s.1 ∧ s.1 ≤ 4611686018427387903 ∧ 1 ≤ s.2 ∧ s.2 < 4611686018427387903)
def prcB (p : Prc) : Bool := decide (0 ≤ p.svc ∧ p.svc ≤ 4611686018427387903 ∧ 1 ≤ p.size ∧ p.size ≤ 65536 ∧ 0 ≤ p.red ∧ p.red ≤ p.size ∧ 80 ≤ p.mtu ∧ p.mtu ≤ 4096 ∧ 0 ≤ p.every ∧ p.every ≤ 65536)
def szI (z : Int) : Nat := sz z.toNat
def hd (s : Ses) (p : Prc) (at' : Int) : Nat := 2 + szI s.1 + szI s.2 + szI p.svc + szI at'
/-- a piece's room: without check numbers; of a checkpoint. -/
def roomP (s : Ses) (p : Prc) (at' : Int) : Int := room (hd s p at') p.mtu.toNat
def roomC (s : Ses) (p : Prc) (at' ck rp : Int) : Int := room (hd s p at' + szI ck + szI rp) p.mtu.toNat
def endsT (p : Prc) (to : Int) : Int := if to < p.red then 1 else if p.red < p.size then 2 else 3
def cutR (s : Ses) (p : Prc) : Nat → Int → Int → Int → List Pce
  | 0, _, _, _ => []
  | f + 1, at', plain, base =>
    if p.red ≤ at' then [] else
    if p.red - at' ≤ roomC s p at' (base + 1) 0 ∨ 0 < p.every ∧ plain = p.every - 1 then
      ⟨endsT p (at' + min (p.red - at') (roomC s p at' (base + 1) 0)), at', at' + min (p.red - at') (roomC s p at' (base + 1) 0), base + 1, 0⟩ :: cutR s p f (at' + min (p.red - at') (roomC s p at' (base + 1) 0)) 0 (base + 1)
    else ⟨0, at', at' + min (roomP s p at') (p.red - at' - 1), 0, 0⟩ :: cutR s p f (at' + min (roomP s p at') (p.red - at' - 1)) (plain + 1) base
def cutG (s : Ses) (p : Prc) : Nat → Int → List Pce
  | 0, _ => []
  | f + 1, at' =>
    if p.size ≤ at' then [] else
    if p.size - at' ≤ roomP s p at' then [⟨7, at', p.size, 0, 0⟩] else ⟨4, at', at' + roomP s p at', 0, 0⟩ :: cutG s p f (at' + roomP s p at')
def cut (s : Ses) (p : Prc) (base : Int) : List Pce × Int :=
  if sesB s = false then ([], 1) else if prcB p = false then ([], 40) else if base < 0 ∨ 4611686018427322367 < base then ([], 1) else
  (cutR s p p.red.toNat 0 0 base ++ cutG s p (p.size - p.red).toNat p.red, 0)
theorem szI_le {z : Int} (h : z ≤ 4611686018427387903) : szI z ≤ 9 := sz_le 8 _ (by omega)
theorem hd_le {s : Ses} {p : Prc} {at' : Int} (hs : sesB s = true) (hp : prcB p = true) (ha : at' ≤ 65536) : hd s p at' ≤ 38 := by
  simp only [sesB, prcB, decide_eq_true_eq] at hs hp
  have h1 := szI_le (z := s.1) (by omega)
  have h2 := szI_le (z := s.2) (by omega)
  have h3 := szI_le (z := p.svc) (by omega)
  have h4 := szI_le (z := at') (by omega)
  unfold hd; omega
theorem roomP_bd {s : Ses} {p : Prc} {at' : Int} (hs : sesB s = true) (hp : prcB p = true) (ha : at' ≤ 65536) : 20 ≤ roomP s p at' ∧ roomP s p at' ≤ p.mtu := by
  have h1 := hd_le hs hp ha
  simp only [prcB, decide_eq_true_eq] at hp
  have h2 := room_pos (h := hd s p at') (m := p.mtu.toNat) (by omega) (by omega)
  have h3 := room_le (hd s p at') p.mtu.toNat
  unfold roomP; omega
theorem roomC_bd {s : Ses} {p : Prc} {at' ck rp : Int} (hs : sesB s = true) (hp : prcB p = true) (ha : at' ≤ 65536) (hc : ck ≤ 4611686018427387903) (hr : rp ≤ 4611686018427387903) : 20 ≤ roomC s p at' ck rp ∧ roomC s p at' ck rp ≤ p.mtu := by
  have h1 := hd_le hs hp ha
  have h4 := szI_le hc
  have h5 := szI_le hr
  simp only [prcB, decide_eq_true_eq] at hp
  have h2 := room_pos (h := hd s p at' + szI ck + szI rp) (m := p.mtu.toNat) (by omega) (by omega)
  have h3 := room_le (hd s p at' + szI ck + szI rp) p.mtu.toNat
  unfold roomC; omega
end Go.Proofs.Ytdnngagahhleiaa
