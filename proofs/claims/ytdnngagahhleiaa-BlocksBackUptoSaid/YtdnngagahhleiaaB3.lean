/- blocks.Cut. -/
import Derived.Test.YtdnngagahhleiaaB2
import Derived.Test.YtdnngagahhleiaaC2
namespace Go.Proofs.Ytdnngagahhleiaa
open Go.Sx
attribute [local irreducible] W WL WP Hv Yl
set_option maxRecDepth 10000
set_option linter.unusedVariables false
set_option linter.unusedSimpArgs false
abbrev PceL (out : List Pce) (vs : List Value) : Value → List It → Prop := Lst 65 pcC5 out vs
abbrev prcI (b : Nat) (p : Prc) : It := .blk b [.int .i64 p.svc, .int .i64 p.size, .int .i64 p.red, .int .i64 p.mtu, .int .i64 p.every] 25
set_option maxHeartbeats 4000000 in
theorem Cut_t (s : Ses) (p : Prc) (base : Int) (w : World) : Tr Try.prog 17 #[sesV s, prcV p, .int .i64 base] w [] (PceL (cut s p base).1 [.int .i64 (cut s p base).2]) := by
  refine Tr_intro (rs := [.tmp 6, .tmp 7]) (args := [sesV s, prcV p, .int .i64 base]) Try.func17 rfl rfl 119 rfl rfl ?_
  refine W_nilrow 65 5 ?_
  (repeat' (first | refine Zv tb ?_ | (refine Zt (fun ht => ?_) (fun ht => ?_) <;> (dsimp only [cmpP, cmpN] at ht) <;> (try (exfalso; omega))) | refine Z0 ?_ | refine Zq ?_ | refine Zr ?_ | refine Zk ?_ | refine Zy ?_ | refine Zn ?_ | refine Zj ?_ | refine Ze ?_ | refine Zx ?_ | refine Zqr ?_ | refine Zqs ?_ | refine Zqc ?_ | refine Zqx ?_ | refine Zqf ?_ | refine Zm tb fun b => ?_ | refine Zb fun b => ?_ | refine Zs tb ?_ | refine Zu tb ?_))
  rename_i b3
  revert b
  intro b4
  refine WL_cons rfl (Hv_call tb (Γ1 := []) rfl rfl rfl (List.Perm.refl _) (fun w hs => session_t s w) rfl ?_)
  rintro v Γ' ⟨rfl, rfl⟩
  cases h1 : sesB s
  · (repeat' (first | refine Zv tb ?_ | (refine Zt (fun ht => ?_) (fun ht => ?_) <;> (dsimp only [cmpP, cmpN] at ht) <;> (try (exfalso; omega))) | refine Z0 ?_ | refine Zq ?_ | refine Zr ?_ | refine Zk ?_ | refine Zy ?_ | refine Zn ?_ | refine Zj ?_ | refine Ze ?_ | refine Zx ?_ | refine Zqr ?_ | refine Zqs ?_ | refine Zqc ?_ | refine Zqx ?_ | refine Zqf ?_ | refine Zm tb fun b => ?_ | refine Zb fun b => ?_ | refine Zs tb ?_ | refine Zu tb ?_))
    have e : cut s p base = ([], 1) := by unfold cut; rw [if_pos h1]
    rw [e]
    exact ⟨_, _, .tmp rfl (.tmp rfl .nil), ⟨none, 0, rfl, rfl⟩, _, perm_picks [2] rfl⟩
  (repeat' (first | refine Zv tb ?_ | (refine Zt (fun ht => ?_) (fun ht => ?_) <;> (dsimp only [cmpP, cmpN] at ht) <;> (try (exfalso; omega))) | refine Z0 ?_ | refine Zq ?_ | refine Zr ?_ | refine Zk ?_ | refine Zy ?_ | refine Zn ?_ | refine Zj ?_ | refine Ze ?_ | refine Zx ?_ | refine Zqr ?_ | refine Zqs ?_ | refine Zqc ?_ | refine Zqx ?_ | refine Zqf ?_ | refine Zm tb fun b => ?_ | refine Zb fun b => ?_ | refine Zs tb ?_ | refine Zu tb ?_))
  refine WL_cons rfl (Hv_call tb (Γ1 := []) rfl rfl rfl (List.Perm.refl _) (fun w hs => parcel_t p w) rfl ?_)
  rintro v Γ' ⟨rfl, rfl⟩
  cases h2 : prcB p
  · (repeat' (first | refine Zv tb ?_ | (refine Zt (fun ht => ?_) (fun ht => ?_) <;> (dsimp only [cmpP, cmpN] at ht) <;> (try (exfalso; omega))) | refine Z0 ?_ | refine Zq ?_ | refine Zr ?_ | refine Zk ?_ | refine Zy ?_ | refine Zn ?_ | refine Zj ?_ | refine Ze ?_ | refine Zx ?_ | refine Zqr ?_ | refine Zqs ?_ | refine Zqc ?_ | refine Zqx ?_ | refine Zqf ?_ | refine Zm tb fun b => ?_ | refine Zb fun b => ?_ | refine Zs tb ?_ | refine Zu tb ?_))
    have e : cut s p base = ([], 40) := by unfold cut; rw [if_neg (by simp [h1]), if_pos h2]
    rw [e]
    exact ⟨_, _, .tmp rfl (.tmp rfl .nil), ⟨none, 0, rfl, rfl⟩, _, perm_picks [2] rfl⟩
  have hp := h2
  simp only [prcB, decide_eq_true_eq] at hp
  by_cases h3 : base < 0 ∨ 4611686018427322367 < base
  · have e : cut s p base = ([], 1) := by unfold cut; rw [if_neg (by simp [h1]), if_neg (by simp [h2]), if_pos h3]
    rw [e]
    (repeat' (first | refine Zv tb ?_ | (refine Zt (fun ht => ?_) (fun ht => ?_) <;> (dsimp only [cmpP, cmpN] at ht) <;> (try (exfalso; omega))) | refine Z0 ?_ | refine Zq ?_ | refine Zr ?_ | refine Zk ?_ | refine Zy ?_ | refine Zn ?_ | refine Zj ?_ | refine Ze ?_ | refine Zx ?_ | refine Zqr ?_ | refine Zqs ?_ | refine Zqc ?_ | refine Zqx ?_ | refine Zqf ?_ | refine Zm tb fun b => ?_ | refine Zb fun b => ?_ | refine Zs tb ?_ | refine Zu tb ?_))
    all_goals exact ⟨_, _, .tmp rfl (.tmp rfl .nil), ⟨none, 0, rfl, rfl⟩, _, perm_picks [2] rfl⟩
  have e : cut s p base = (cutR s p p.red.toNat 0 0 base ++ cutG s p (p.size - p.red).toNat p.red, 0) := by unfold cut; rw [if_neg (by simp [h1]), if_neg (by simp [h2]), if_neg h3]
  rw [e]
  obtain ⟨R, hR⟩ : ∃ R, R = cutR s p p.red.toNat 0 0 base := ⟨_, rfl⟩
  obtain ⟨G, hG⟩ : ∃ G, G = cutG s p (p.size - p.red).toNat p.red := ⟨_, rfl⟩
  rw [← hR, ← hG]
  (repeat' (first | refine Zv tb ?_ | (refine Zt (fun ht => ?_) (fun ht => ?_) <;> (dsimp only [cmpP, cmpN] at ht) <;> (try (exfalso; omega))) | refine Z0 ?_ | refine Zq ?_ | refine Zr ?_ | refine Zk ?_ | refine Zy ?_ | refine Zn ?_ | refine Zj ?_ | refine Ze ?_ | refine Zx ?_ | refine Zqr ?_ | refine Zqs ?_ | refine Zqc ?_ | refine Zqx ?_ | refine Zqf ?_ | refine Zm tb fun b => ?_ | refine Zb fun b => ?_ | refine Zs tb ?_ | refine Zu tb ?_))
  revert b
  intro bc
  refine W_cutB (σ := List Pce × Option Addr × Nat × Nat) (fun | (out, V, n, c) => [(4, .pointer (some ⟨b4, 0, none⟩)), (8, .pointer (some ⟨bc, 0, none⟩))])
    (fun | (out, V, n, c) => [cutI bc s p (.slice V n c), .row (.slice V n c) 65 5 n (pcC5.cells out), prcI b4 p]) (fun | (out, V, n, c) => out = R ∧ n = out.length ∧ (n : Int) ≤ p.red) ?_ ?_
  · refine W_loop (σ := Nat × Int × Int × Int × List Pce × Option Addr × Nat × Nat) (fun | (f, at', plain, base, out, V, n, c) => [(2, .int .i64 base), (4, .pointer (some ⟨b4, 0, none⟩)), (8, .pointer (some ⟨bc, 0, none⟩)), (9, .int .i64 plain), (10, .int .i64 at')])
      (fun | (f, at', plain, base, out, V, n, c) => [cutI bc s p (.slice V n c), .row (.slice V n c) 65 5 n (pcC5.cells out), prcI b4 p])
      (fun | (f, at', plain, b0, out, V, n, c) => 0 ≤ at' ∧ at' ≤ p.red ∧ p.red - at' ≤ f ∧ out ++ cutR s p f at' plain b0 = R ∧ base ≤ b0 ∧ b0 ≤ base + at' ∧ 0 ≤ plain ∧ plain ≤ at' ∧ n = out.length ∧ (n : Int) ≤ at') (fun | (f, _) => f)
      (p.red.toNat, 0, 0, base, [], none, 0, 0) ⟨by omega, by omega, by omega, hR.symm, by omega, by omega, by omega, by omega, rfl, by omega⟩ (by repeat (first | exact Sub.nil | refine Sub.cons rfl ?_)) ⟨_, perm_picks [0, 2, 0] rfl⟩ ?_
    rintro ⟨f, at', plain, b0, out, V, n, c⟩ ⟨ha0, ha1, hf, he, hb0, hb1, hpl0, hpl1, hn, hna⟩
    dsimp only at ha0 ha1 hf he hb0 hb1 hpl0 hpl1 hn hna ⊢
    by_cases hlt : at' < p.red
    · obtain ⟨f, rfl⟩ : ∃ f', f = f' + 1 := ⟨f - 1, by omega⟩
      have hrb := roomC_bd (at' := at') (ck := b0 + 1) (rp := 0) h1 h2 (by omega) (by omega) (by omega)
      have hrp := roomP_bd (at' := at') h1 h2 (by omega)
      rw [cutR, if_neg (by omega)] at he
      (repeat' (first | refine Zv tb ?_ | (refine Zt (fun ht => ?_) (fun ht => ?_) <;> (dsimp only [cmpP, cmpN] at ht) <;> (try (exfalso; omega))) | refine Z0 ?_ | refine Zq ?_ | refine Zr ?_ | refine Zk ?_ | refine Zy ?_ | refine Zn ?_ | refine Zj ?_ | refine Ze ?_ | refine Zx ?_ | refine Zqr ?_ | refine Zqs ?_ | refine Zqc ?_ | refine Zqx ?_ | refine Zqf ?_ | refine Zm tb fun b => ?_ | refine Zb fun b => ?_ | refine Zs tb ?_ | refine Zu tb ?_))
      refine WL_cons rfl (Hv_call tb  rfl rfl rfl (perm_picks [0] rfl) (fun w hs => room_t bc s p _ at' (b0 + 1) 0 true w h1 h2 ⟨by omega, by omega⟩ ⟨by omega, by omega⟩ ⟨by omega, by omega⟩) rfl ?_)
      rw [if_pos rfl]
      obtain ⟨rc, hrc⟩ : ∃ rc, rc = roomC s p at' (b0 + 1) 0 := ⟨_, rfl⟩
      rw [← hrc] at hrb he ⊢
      rintro v Γ' ⟨rfl, rfl⟩
      (repeat' (first | refine Zv tb ?_ | (refine Zt (fun ht => ?_) (fun ht => ?_) <;> (dsimp only [cmpP, cmpN] at ht) <;> (try (exfalso; omega))) | refine Z0 ?_ | refine Zq ?_ | refine Zr ?_ | refine Zk ?_ | refine Zy ?_ | refine Zn ?_ | refine Zj ?_ | refine Ze ?_ | refine Zx ?_ | refine Zqr ?_ | refine Zqs ?_ | refine Zqc ?_ | refine Zqx ?_ | refine Zqf ?_ | refine Zm tb fun b => ?_ | refine Zb fun b => ?_ | refine Zs tb ?_ | refine Zu tb ?_))
      · have hc : p.red - at' ≤ rc ∨ 0 < p.every ∧ plain = p.every - 1 := by omega
        rw [if_pos hc] at he
        (repeat' (first | refine Zv tb ?_ | (refine Zt (fun ht => ?_) (fun ht => ?_) <;> (dsimp only [cmpP, cmpN] at ht) <;> (try (exfalso; omega))) | refine Z0 ?_ | refine Zq ?_ | refine Zr ?_ | refine Zk ?_ | refine Zy ?_ | refine Zn ?_ | refine Zj ?_ | refine Ze ?_ | refine Zx ?_ | refine Zqr ?_ | refine Zqs ?_ | refine Zqc ?_ | refine Zqx ?_ | refine Zqf ?_ | refine Zm tb fun b => ?_ | refine Zb fun b => ?_ | refine Zs tb ?_ | refine Zu tb ?_))
        refine WL_cons rfl (Hv_call tb  rfl rfl rfl (perm_picks [0] rfl) (fun w hs => ends_t bc s p _ (at' + min (p.red - at') rc) w) rfl ?_)
        rintro v Γ' ⟨rfl, rfl⟩
        (repeat' (first | refine Zv tb ?_ | (refine Zt (fun ht => ?_) (fun ht => ?_) <;> (dsimp only [cmpP, cmpN] at ht) <;> (try (exfalso; omega))) | refine Z0 ?_ | refine Zq ?_ | refine Zr ?_ | refine Zk ?_ | refine Zy ?_ | refine Zn ?_ | refine Zj ?_ | refine Ze ?_ | refine Zx ?_ | refine Zqr ?_ | refine Zqs ?_ | refine Zqc ?_ | refine Zqx ?_ | refine Zqf ?_ | refine Zm tb fun b => ?_ | refine Zb fun b => ?_ | refine Zs tb ?_ | refine Zu tb ?_))
        refine WL_cons rfl (Hv_call tb  rfl rfl rfl (perm_picks [0, 0] rfl) (fun w hs => put_t bc s p out V n c (endsT p (at' + min (p.red - at') rc)) at' (min (p.red - at') rc) (b0 + 1) 0 w (by omega) ⟨by omega, by omega⟩ ⟨by omega, by omega⟩) rfl ?_)
        rintro v Γ' ⟨rfl, V', c', rfl⟩
        (repeat' (first | refine Zv tb ?_ | (refine Zt (fun ht => ?_) (fun ht => ?_) <;> (dsimp only [cmpP, cmpN] at ht) <;> (try (exfalso; omega))) | refine Z0 ?_ | refine Zq ?_ | refine Zr ?_ | refine Zk ?_ | refine Zy ?_ | refine Zn ?_ | refine Zj ?_ | refine Ze ?_ | refine Zx ?_ | refine Zqr ?_ | refine Zqs ?_ | refine Zqc ?_ | refine Zqx ?_ | refine Zqf ?_ | refine Zm tb fun b => ?_ | refine Zb fun b => ?_ | refine Zs tb ?_ | refine Zu tb ?_))
        exact ⟨(f, at' + min (p.red - at') rc, 0, b0 + 1, out ++ [⟨endsT p (at' + min (p.red - at') rc), at', at' + min (p.red - at') rc, b0 + 1, 0⟩], V', n + 1, c'), ⟨by dsimp only; omega, by dsimp only; omega, by dsimp only; omega, by dsimp only; rw [← he]; simp, by dsimp only; omega, by dsimp only; omega, by dsimp only; omega, by dsimp only; omega, by simp; omega, by dsimp only; omega⟩, by dsimp only; omega, (by repeat (first | exact Sub.nil | refine Sub.cons rfl ?_)), keepAll _⟩
      · have hc : p.red - at' ≤ rc ∨ 0 < p.every ∧ plain = p.every - 1 := by omega
        rw [if_pos hc] at he
        (repeat' (first | refine Zv tb ?_ | (refine Zt (fun ht => ?_) (fun ht => ?_) <;> (dsimp only [cmpP, cmpN] at ht) <;> (try (exfalso; omega))) | refine Z0 ?_ | refine Zq ?_ | refine Zr ?_ | refine Zk ?_ | refine Zy ?_ | refine Zn ?_ | refine Zj ?_ | refine Ze ?_ | refine Zx ?_ | refine Zqr ?_ | refine Zqs ?_ | refine Zqc ?_ | refine Zqx ?_ | refine Zqf ?_ | refine Zm tb fun b => ?_ | refine Zb fun b => ?_ | refine Zs tb ?_ | refine Zu tb ?_))
        refine WL_cons rfl (Hv_call tb  rfl rfl rfl (perm_picks [0] rfl) (fun w hs => ends_t bc s p _ (at' + min (p.red - at') rc) w) rfl ?_)
        rintro v Γ' ⟨rfl, rfl⟩
        (repeat' (first | refine Zv tb ?_ | (refine Zt (fun ht => ?_) (fun ht => ?_) <;> (dsimp only [cmpP, cmpN] at ht) <;> (try (exfalso; omega))) | refine Z0 ?_ | refine Zq ?_ | refine Zr ?_ | refine Zk ?_ | refine Zy ?_ | refine Zn ?_ | refine Zj ?_ | refine Ze ?_ | refine Zx ?_ | refine Zqr ?_ | refine Zqs ?_ | refine Zqc ?_ | refine Zqx ?_ | refine Zqf ?_ | refine Zm tb fun b => ?_ | refine Zb fun b => ?_ | refine Zs tb ?_ | refine Zu tb ?_))
        refine WL_cons rfl (Hv_call tb  rfl rfl rfl (perm_picks [0, 0] rfl) (fun w hs => put_t bc s p out V n c (endsT p (at' + min (p.red - at') rc)) at' (min (p.red - at') rc) (b0 + 1) 0 w (by omega) ⟨by omega, by omega⟩ ⟨by omega, by omega⟩) rfl ?_)
        rintro v Γ' ⟨rfl, V', c', rfl⟩
        (repeat' (first | refine Zv tb ?_ | (refine Zt (fun ht => ?_) (fun ht => ?_) <;> (dsimp only [cmpP, cmpN] at ht) <;> (try (exfalso; omega))) | refine Z0 ?_ | refine Zq ?_ | refine Zr ?_ | refine Zk ?_ | refine Zy ?_ | refine Zn ?_ | refine Zj ?_ | refine Ze ?_ | refine Zx ?_ | refine Zqr ?_ | refine Zqs ?_ | refine Zqc ?_ | refine Zqx ?_ | refine Zqf ?_ | refine Zm tb fun b => ?_ | refine Zb fun b => ?_ | refine Zs tb ?_ | refine Zu tb ?_))
        exact ⟨(f, at' + min (p.red - at') rc, 0, b0 + 1, out ++ [⟨endsT p (at' + min (p.red - at') rc), at', at' + min (p.red - at') rc, b0 + 1, 0⟩], V', n + 1, c'), ⟨by dsimp only; omega, by dsimp only; omega, by dsimp only; omega, by dsimp only; rw [← he]; simp, by dsimp only; omega, by dsimp only; omega, by dsimp only; omega, by dsimp only; omega, by simp; omega, by dsimp only; omega⟩, by dsimp only; omega, (by repeat (first | exact Sub.nil | refine Sub.cons rfl ?_)), keepAll _⟩
      · have hc : ¬ (p.red - at' ≤ rc ∨ 0 < p.every ∧ plain = p.every - 1) := by omega
        rw [if_neg hc] at he
        (repeat' (first | refine Zv tb ?_ | (refine Zt (fun ht => ?_) (fun ht => ?_) <;> (dsimp only [cmpP, cmpN] at ht) <;> (try (exfalso; omega))) | refine Z0 ?_ | refine Zq ?_ | refine Zr ?_ | refine Zk ?_ | refine Zy ?_ | refine Zn ?_ | refine Zj ?_ | refine Ze ?_ | refine Zx ?_ | refine Zqr ?_ | refine Zqs ?_ | refine Zqc ?_ | refine Zqx ?_ | refine Zqf ?_ | refine Zm tb fun b => ?_ | refine Zb fun b => ?_ | refine Zs tb ?_ | refine Zu tb ?_))
        refine WL_cons rfl (Hv_call tb  rfl rfl rfl (perm_picks [0] rfl) (fun w hs => room_t bc s p _ at' 0 0 false w h1 h2 ⟨by omega, by omega⟩ ⟨by omega, by omega⟩ ⟨by omega, by omega⟩) rfl ?_)
        rw [if_neg (by decide)]
        obtain ⟨rp', hrp'⟩ : ∃ rp', rp' = roomP s p at' := ⟨_, rfl⟩
        rw [← hrp'] at hrp he ⊢
        rintro v Γ' ⟨rfl, rfl⟩
        (repeat' (first | refine Zv tb ?_ | (refine Zt (fun ht => ?_) (fun ht => ?_) <;> (dsimp only [cmpP, cmpN] at ht) <;> (try (exfalso; omega))) | refine Z0 ?_ | refine Zq ?_ | refine Zr ?_ | refine Zk ?_ | refine Zy ?_ | refine Zn ?_ | refine Zj ?_ | refine Ze ?_ | refine Zx ?_ | refine Zqr ?_ | refine Zqs ?_ | refine Zqc ?_ | refine Zqx ?_ | refine Zqf ?_ | refine Zm tb fun b => ?_ | refine Zb fun b => ?_ | refine Zs tb ?_ | refine Zu tb ?_))
        refine WL_cons rfl (Hv_call tb  rfl rfl rfl (perm_picks [0, 0] rfl) (fun w hs => put_t bc s p out V n c 0 at' (min rp' (p.red - at' - 1)) 0 0 w (by omega) ⟨by omega, by omega⟩ ⟨by omega, by omega⟩) rfl ?_)
        rintro v Γ' ⟨rfl, V', c', rfl⟩
        (repeat' (first | refine Zv tb ?_ | (refine Zt (fun ht => ?_) (fun ht => ?_) <;> (dsimp only [cmpP, cmpN] at ht) <;> (try (exfalso; omega))) | refine Z0 ?_ | refine Zq ?_ | refine Zr ?_ | refine Zk ?_ | refine Zy ?_ | refine Zn ?_ | refine Zj ?_ | refine Ze ?_ | refine Zx ?_ | refine Zqr ?_ | refine Zqs ?_ | refine Zqc ?_ | refine Zqx ?_ | refine Zqf ?_ | refine Zm tb fun b => ?_ | refine Zb fun b => ?_ | refine Zs tb ?_ | refine Zu tb ?_))
        exact ⟨(f, at' + min rp' (p.red - at' - 1), plain + 1, b0, out ++ [⟨0, at', at' + min rp' (p.red - at' - 1), 0, 0⟩], V', n + 1, c'), ⟨by dsimp only; omega, by dsimp only; omega, by dsimp only; omega, by dsimp only; rw [← he]; simp, by dsimp only; omega, by dsimp only; omega, by dsimp only; omega, by dsimp only; omega, by simp; omega, by dsimp only; omega⟩, by dsimp only; omega, (by repeat (first | exact Sub.nil | refine Sub.cons rfl ?_)), keepAll _⟩
      · have hc : ¬ (p.red - at' ≤ rc ∨ 0 < p.every ∧ plain = p.every - 1) := by omega
        rw [if_neg hc] at he
        (repeat' (first | refine Zv tb ?_ | (refine Zt (fun ht => ?_) (fun ht => ?_) <;> (dsimp only [cmpP, cmpN] at ht) <;> (try (exfalso; omega))) | refine Z0 ?_ | refine Zq ?_ | refine Zr ?_ | refine Zk ?_ | refine Zy ?_ | refine Zn ?_ | refine Zj ?_ | refine Ze ?_ | refine Zx ?_ | refine Zqr ?_ | refine Zqs ?_ | refine Zqc ?_ | refine Zqx ?_ | refine Zqf ?_ | refine Zm tb fun b => ?_ | refine Zb fun b => ?_ | refine Zs tb ?_ | refine Zu tb ?_))
        refine WL_cons rfl (Hv_call tb  rfl rfl rfl (perm_picks [0] rfl) (fun w hs => room_t bc s p _ at' 0 0 false w h1 h2 ⟨by omega, by omega⟩ ⟨by omega, by omega⟩ ⟨by omega, by omega⟩) rfl ?_)
        rw [if_neg (by decide)]
        obtain ⟨rp', hrp'⟩ : ∃ rp', rp' = roomP s p at' := ⟨_, rfl⟩
        rw [← hrp'] at hrp he ⊢
        rintro v Γ' ⟨rfl, rfl⟩
        (repeat' (first | refine Zv tb ?_ | (refine Zt (fun ht => ?_) (fun ht => ?_) <;> (dsimp only [cmpP, cmpN] at ht) <;> (try (exfalso; omega))) | refine Z0 ?_ | refine Zq ?_ | refine Zr ?_ | refine Zk ?_ | refine Zy ?_ | refine Zn ?_ | refine Zj ?_ | refine Ze ?_ | refine Zx ?_ | refine Zqr ?_ | refine Zqs ?_ | refine Zqc ?_ | refine Zqx ?_ | refine Zqf ?_ | refine Zm tb fun b => ?_ | refine Zb fun b => ?_ | refine Zs tb ?_ | refine Zu tb ?_))
        refine WL_cons rfl (Hv_call tb  rfl rfl rfl (perm_picks [0, 0] rfl) (fun w hs => put_t bc s p out V n c 0 at' (min rp' (p.red - at' - 1)) 0 0 w (by omega) ⟨by omega, by omega⟩ ⟨by omega, by omega⟩) rfl ?_)
        rintro v Γ' ⟨rfl, V', c', rfl⟩
        (repeat' (first | refine Zv tb ?_ | (refine Zt (fun ht => ?_) (fun ht => ?_) <;> (dsimp only [cmpP, cmpN] at ht) <;> (try (exfalso; omega))) | refine Z0 ?_ | refine Zq ?_ | refine Zr ?_ | refine Zk ?_ | refine Zy ?_ | refine Zn ?_ | refine Zj ?_ | refine Ze ?_ | refine Zx ?_ | refine Zqr ?_ | refine Zqs ?_ | refine Zqc ?_ | refine Zqx ?_ | refine Zqf ?_ | refine Zm tb fun b => ?_ | refine Zb fun b => ?_ | refine Zs tb ?_ | refine Zu tb ?_))
        exact ⟨(f, at' + min rp' (p.red - at' - 1), plain + 1, b0, out ++ [⟨0, at', at' + min rp' (p.red - at' - 1), 0, 0⟩], V', n + 1, c'), ⟨by dsimp only; omega, by dsimp only; omega, by dsimp only; omega, by dsimp only; rw [← he]; simp, by dsimp only; omega, by dsimp only; omega, by dsimp only; omega, by dsimp only; omega, by simp; omega, by dsimp only; omega⟩, by dsimp only; omega, (by repeat (first | exact Sub.nil | refine Sub.cons rfl ?_)), keepAll _⟩
    · have e0 : cutR s p f at' plain b0 = [] := by cases f <;> simp [cutR]; omega
      rw [e0, List.append_nil] at he
      (repeat' (first | refine Zv tb ?_ | (refine Zt (fun ht => ?_) (fun ht => ?_) <;> (dsimp only [cmpP, cmpN] at ht) <;> (try (exfalso; omega))) | refine Z0 ?_ | refine Zq ?_ | refine Zr ?_ | refine Zk ?_ | refine Zy ?_ | refine Zn ?_ | refine Zj ?_ | refine Ze ?_ | refine Zx ?_ | refine Zqr ?_ | refine Zqs ?_ | refine Zqc ?_ | refine Zqx ?_ | refine Zqf ?_ | refine Zm tb fun b => ?_ | refine Zb fun b => ?_ | refine Zs tb ?_ | refine Zu tb ?_))
      exact ⟨(out, V, n, c), ⟨he, hn, by dsimp only; omega⟩, (by repeat (first | exact Sub.nil | refine Sub.cons rfl ?_)), keepAll _⟩
  rintro ⟨out, V, n, c⟩ ⟨hout, hn, hn1⟩
  have hgs : ∀ f, cutG s p f p.size = [] := fun f => by cases f <;> simp [cutG]
  (repeat' (first | refine Zv tb ?_ | (refine Zt (fun ht => ?_) (fun ht => ?_) <;> (dsimp only [cmpP, cmpN] at ht) <;> (try (exfalso; omega))) | refine Z0 ?_ | refine Zq ?_ | refine Zr ?_ | refine Zk ?_ | refine Zy ?_ | refine Zn ?_ | refine Zj ?_ | refine Ze ?_ | refine Zx ?_ | refine Zqr ?_ | refine Zqs ?_ | refine Zqc ?_ | refine Zqx ?_ | refine Zqf ?_ | refine Zm tb fun b => ?_ | refine Zb fun b => ?_ | refine Zs tb ?_ | refine Zu tb ?_))
  refine W_cutB (σ := List Pce × Option Addr × Nat × Nat) (fun | (out, V, n, c) => [(8, .pointer (some ⟨bc, 0, none⟩))])
    (fun | (out, V, n, c) => [cutI bc s p (.slice V n c), .row (.slice V n c) 65 5 n (pcC5.cells out)]) (fun | (out, V, n, c) => out = R ++ G ∧ n = out.length) ?_ ?_
  · refine W_loop (σ := Nat × Int × List Pce × Option Addr × Nat × Nat) (fun | (f, at', out, V, n, c) => [(4, .pointer (some ⟨b4, 0, none⟩)), (8, .pointer (some ⟨bc, 0, none⟩)), (14, .int .i64 at')])
      (fun | (f, at', out, V, n, c) => [cutI bc s p (.slice V n c), .row (.slice V n c) 65 5 n (pcC5.cells out), prcI b4 p])
      (fun | (f, at', out, V, n, c) => p.red ≤ at' ∧ at' ≤ p.size ∧ p.size - at' ≤ f ∧ out ++ cutG s p f at' = R ++ G ∧ n = out.length ∧ (n : Int) ≤ at') (fun | (f, _) => f)
      ((p.size - p.red).toNat, p.red, out, V, n, c) ⟨by omega, by omega, by omega, by rw [hout, hG], hn, hn1⟩ (by repeat (first | exact Sub.nil | refine Sub.cons rfl ?_)) (keepAll _) ?_
    rintro ⟨f, at', out, V, n, c⟩ ⟨ha0, ha1, hf, he, hn, hna⟩
    dsimp only at ha0 ha1 hf he hn hna ⊢
    by_cases hlt : at' < p.size
    · obtain ⟨f, rfl⟩ : ∃ f', f = f' + 1 := ⟨f - 1, by omega⟩
      have hrp := roomP_bd (at' := at') h1 h2 (by omega)
      rw [cutG, if_neg (by omega)] at he
      (repeat' (first | refine Zv tb ?_ | (refine Zt (fun ht => ?_) (fun ht => ?_) <;> (dsimp only [cmpP, cmpN] at ht) <;> (try (exfalso; omega))) | refine Z0 ?_ | refine Zq ?_ | refine Zr ?_ | refine Zk ?_ | refine Zy ?_ | refine Zn ?_ | refine Zj ?_ | refine Ze ?_ | refine Zx ?_ | refine Zqr ?_ | refine Zqs ?_ | refine Zqc ?_ | refine Zqx ?_ | refine Zqf ?_ | refine Zm tb fun b => ?_ | refine Zb fun b => ?_ | refine Zs tb ?_ | refine Zu tb ?_))
      refine WL_cons rfl (Hv_call tb  rfl rfl rfl (perm_picks [0] rfl) (fun w hs => room_t bc s p _ at' 0 0 false w h1 h2 ⟨by omega, by omega⟩ ⟨by omega, by omega⟩ ⟨by omega, by omega⟩) rfl ?_)
      rw [if_neg (by decide)]
      obtain ⟨rp', hrp'⟩ : ∃ rp', rp' = roomP s p at' := ⟨_, rfl⟩
      rw [← hrp'] at hrp he ⊢
      rintro v Γ' ⟨rfl, rfl⟩
      (repeat' (first | refine Zv tb ?_ | (refine Zt (fun ht => ?_) (fun ht => ?_) <;> (dsimp only [cmpP, cmpN] at ht) <;> (try (exfalso; omega))) | refine Z0 ?_ | refine Zq ?_ | refine Zr ?_ | refine Zk ?_ | refine Zy ?_ | refine Zn ?_ | refine Zj ?_ | refine Ze ?_ | refine Zx ?_ | refine Zqr ?_ | refine Zqs ?_ | refine Zqc ?_ | refine Zqx ?_ | refine Zqf ?_ | refine Zm tb fun b => ?_ | refine Zb fun b => ?_ | refine Zs tb ?_ | refine Zu tb ?_))
      · rw [if_pos (by omega)] at he
        refine WL_cons rfl (Hv_call tb  rfl rfl rfl (perm_picks [0, 0] rfl) (fun w hs => put_t bc s p out V n c 7 at' (p.size - at') 0 0 w (by omega) ⟨by omega, by omega⟩ ⟨by omega, by omega⟩) rfl ?_)
        rw [show at' + (p.size - at') = p.size by omega]
        rintro v Γ' ⟨rfl, V', c', rfl⟩
        (repeat' (first | refine Zv tb ?_ | (refine Zt (fun ht => ?_) (fun ht => ?_) <;> (dsimp only [cmpP, cmpN] at ht) <;> (try (exfalso; omega))) | refine Z0 ?_ | refine Zq ?_ | refine Zr ?_ | refine Zk ?_ | refine Zy ?_ | refine Zn ?_ | refine Zj ?_ | refine Ze ?_ | refine Zx ?_ | refine Zqr ?_ | refine Zqs ?_ | refine Zqc ?_ | refine Zqx ?_ | refine Zqf ?_ | refine Zm tb fun b => ?_ | refine Zb fun b => ?_ | refine Zs tb ?_ | refine Zu tb ?_))
        exact ⟨(f, p.size, out ++ [⟨7, at', p.size, 0, 0⟩], V', n + 1, c'), ⟨by dsimp only; omega, by dsimp only; omega, by dsimp only; omega, by dsimp only; rw [hgs, List.append_nil, ← he], by simp; omega, by dsimp only; omega⟩, by dsimp only; omega, (by repeat (first | exact Sub.nil | refine Sub.cons rfl ?_)), keepAll _⟩
      · rw [if_neg (by omega)] at he
        refine WL_cons rfl (Hv_call tb  rfl rfl rfl (perm_picks [0, 0] rfl) (fun w hs => put_t bc s p out V n c 4 at' rp' 0 0 w (by omega) ⟨by omega, by omega⟩ ⟨by omega, by omega⟩) rfl ?_)
        rintro v Γ' ⟨rfl, V', c', rfl⟩
        (repeat' (first | refine Zv tb ?_ | (refine Zt (fun ht => ?_) (fun ht => ?_) <;> (dsimp only [cmpP, cmpN] at ht) <;> (try (exfalso; omega))) | refine Z0 ?_ | refine Zq ?_ | refine Zr ?_ | refine Zk ?_ | refine Zy ?_ | refine Zn ?_ | refine Zj ?_ | refine Ze ?_ | refine Zx ?_ | refine Zqr ?_ | refine Zqs ?_ | refine Zqc ?_ | refine Zqx ?_ | refine Zqf ?_ | refine Zm tb fun b => ?_ | refine Zb fun b => ?_ | refine Zs tb ?_ | refine Zu tb ?_))
        exact ⟨(f, at' + rp', out ++ [⟨4, at', at' + rp', 0, 0⟩], V', n + 1, c'), ⟨by dsimp only; omega, by dsimp only; omega, by dsimp only; omega, by dsimp only; rw [← he]; simp, by simp; omega, by dsimp only; omega⟩, by dsimp only; omega, (by repeat (first | exact Sub.nil | refine Sub.cons rfl ?_)), keepAll _⟩
    · obtain rfl : at' = p.size := by omega
      rw [hgs, List.append_nil] at he
      (repeat' (first | refine Zv tb ?_ | (refine Zt (fun ht => ?_) (fun ht => ?_) <;> (dsimp only [cmpP, cmpN] at ht) <;> (try (exfalso; omega))) | refine Z0 ?_ | refine Zq ?_ | refine Zr ?_ | refine Zk ?_ | refine Zy ?_ | refine Zn ?_ | refine Zj ?_ | refine Ze ?_ | refine Zx ?_ | refine Zqr ?_ | refine Zqs ?_ | refine Zqc ?_ | refine Zqx ?_ | refine Zqf ?_ | refine Zm tb fun b => ?_ | refine Zb fun b => ?_ | refine Zs tb ?_ | refine Zu tb ?_))
      exact ⟨(out, V, n, c), ⟨he, hn⟩, (by repeat (first | exact Sub.nil | refine Sub.cons rfl ?_)), _, perm_picks [0, 0] rfl⟩
  rintro ⟨out, V, n, c⟩ ⟨rfl, rfl⟩
  (repeat' (first | refine Zv tb ?_ | (refine Zt (fun ht => ?_) (fun ht => ?_) <;> (dsimp only [cmpP, cmpN] at ht) <;> (try (exfalso; omega))) | refine Z0 ?_ | refine Zq ?_ | refine Zr ?_ | refine Zk ?_ | refine Zy ?_ | refine Zn ?_ | refine Zj ?_ | refine Ze ?_ | refine Zx ?_ | refine Zqr ?_ | refine Zqs ?_ | refine Zqc ?_ | refine Zqx ?_ | refine Zqf ?_ | refine Zm tb fun b => ?_ | refine Zb fun b => ?_ | refine Zs tb ?_ | refine Zu tb ?_))
  exact ⟨_, _, .tmp rfl (.tmp rfl .nil), ⟨V, c, rfl, rfl⟩, _, perm_picks [1] rfl⟩
end Go.Proofs.Ytdnngagahhleiaa
