/- the document's buffer: Look, Put, Have, Held, Read, Drop, New; two sets. -/
import Derived.Test.YtdnngagahhleiaaB24
namespace Go.Proofs.Ytdnngagahhleiaa
open Go.Sx
attribute [local irreducible] W WL WP Hv Yl WQ At QP QF Rnd
set_option maxRecDepth 10000
set_option linter.unusedVariables false
set_option linter.unusedSimpArgs false
theorem rNew_t (w : World) : Tr Try.prog 58 #[] w [] (fun v Γ => ∃ rb, v = .pointer (some ⟨rb, 0, none⟩) ∧ Γ = refI rb ⟨[], false⟩ none 0) := by
  refine Tr_intro (rs := [.tmp 0]) (args := []) Try.func58 rfl rfl 3 rfl rfl ?_
  refine W_nilrow 3 1 ?_
  (repeat' (first | refine Zv tb ?_ | (refine Zt (fun ht => ?_) (fun ht => ?_) <;> (dsimp only [cmpP, cmpN] at ht) <;> (try (exfalso; omega))) | refine Z0 ?_ | refine Zq ?_ | refine Zr ?_ | refine Zk ?_ | refine Zy ?_ | refine Zn ?_ | refine Zj ?_ | refine Ze ?_ | refine Zx ?_ | refine Zqr ?_ | refine Zqs ?_ | refine Zqc ?_ | refine Zqx ?_ | refine Zqf ?_ | refine Zm tb fun b => ?_ | refine Zb fun b => ?_ | refine Zs tb ?_ | refine Zu tb ?_))
  exact ⟨_, _, .tmp rfl .nil, ⟨b, rfl, rfl⟩, keepAll _⟩
theorem rLook_t (rb : Nat) (R : Rf) (V D : Option Addr) (c dc : Nat) (at' : Int) (data : List Int) (w : World) (hpl : R.pl.length ≤ 65536) (hdb : ∀ k, k < data.length → 0 ≤ bz data k ∧ bz data k ≤ 255) (hD : SlO w (fps (refI rb R V c)) D data.length dc (byC.cells data)) :
    Tr Try.prog 61 #[.pointer (some ⟨rb, 0, none⟩), .int .i64 at', .slice D data.length dc] w (refI rb R V c)
      (fun v Γ => v = tup [.int .i64 (withF R at' data).2.1, .int .i64 (withF R at' data).2.2.1, .int .i64 (withF R at' data).2.2.2] ∧ Γ = refI rb R V c) := by
  refine Tr_intro (rs := [.tmp 6, .tmp 7, .tmp 8]) (args := [.pointer (some ⟨rb, 0, none⟩), .int .i64 at', .slice D data.length dc]) Try.func61 rfl rfl 25 rfl rfl ?_
  (repeat' (first | refine Zv tb ?_ | (refine Zt (fun ht => ?_) (fun ht => ?_) <;> (dsimp only [cmpP, cmpN] at ht) <;> (try (exfalso; omega))) | refine Z0 ?_ | refine Zq ?_ | refine Zr ?_ | refine Zk ?_ | refine Zy ?_ | refine Zn ?_ | refine Zj ?_ | refine Ze ?_ | refine Zx ?_ | refine Zqr ?_ | refine Zqs ?_ | refine Zqc ?_ | refine Zqx ?_ | refine Zqf ?_ | refine Zm tb fun b => ?_ | refine Zb fun b => ?_ | refine Zs tb ?_ | refine Zu tb ?_))
  refine WL_cons rfl (Hv_call tb  rfl rfl rfl (by rw [List.append_nil]) (fun w hs => rwith_t rb R V D c dc at' data w hpl hdb (hD.callP hs (by rw [List.append_nil]))) rfl ?_)
  rintro v Γ' ⟨A, ca, rfl, rfl⟩
  (repeat' (first | refine Zv tb ?_ | (refine Zt (fun ht => ?_) (fun ht => ?_) <;> (dsimp only [cmpP, cmpN] at ht) <;> (try (exfalso; omega))) | refine Z0 ?_ | refine Zq ?_ | refine Zr ?_ | refine Zk ?_ | refine Zy ?_ | refine Zn ?_ | refine Zj ?_ | refine Ze ?_ | refine Zx ?_ | refine Zqr ?_ | refine Zqs ?_ | refine Zqc ?_ | refine Zqx ?_ | refine Zqf ?_ | refine Zm tb fun b => ?_ | refine Zb fun b => ?_ | refine Zs tb ?_ | refine Zu tb ?_))
  exact ⟨_, _, .tmp rfl (.tmp rfl (.tmp rfl .nil)), ⟨rfl, rfl⟩, _, perm_picks [0, 0] rfl⟩
theorem rPut_t (rb : Nat) (R : Rf) (V D : Option Addr) (c dc : Nat) (at' : Int) (data : List Int) (w : World) (hpl : R.pl.length ≤ 65536) (hdb : ∀ k, k < data.length → 0 ≤ bz data k ∧ bz data k ≤ 255) (hD : SlO w (fps (refI rb R V c)) D data.length dc (byC.cells data)) :
    Tr Try.prog 59 #[.pointer (some ⟨rb, 0, none⟩), .int .i64 at', .slice D data.length dc] w (refI rb R V c)
      (fun v Γ => v = tup [.int .i64 (withF R at' data).2.1, .int .i64 (withF R at' data).2.2.1, .int .i64 (withF R at' data).2.2.2] ∧ ∃ V' c', Γ = refI rb (if (withF R at' data).2.2.2 = 0 then ⟨(withF R at' data).1, R.dr⟩ else R) V' c') := by
  obtain ⟨⟨r1, r2, r3, r4⟩, hr⟩ : ∃ r, r = withF R at' data := ⟨_, rfl⟩
  rw [← hr]
  refine Tr_intro (rs := [.tmp 6, .tmp 7, .tmp 8]) (args := [.pointer (some ⟨rb, 0, none⟩), .int .i64 at', .slice D data.length dc]) Try.func59 rfl rfl 31 rfl rfl ?_
  (repeat' (first | refine Zv tb ?_ | (refine Zt (fun ht => ?_) (fun ht => ?_) <;> (dsimp only [cmpP, cmpN] at ht) <;> (try (exfalso; omega))) | refine Z0 ?_ | refine Zq ?_ | refine Zr ?_ | refine Zk ?_ | refine Zy ?_ | refine Zn ?_ | refine Zj ?_ | refine Ze ?_ | refine Zx ?_ | refine Zqr ?_ | refine Zqs ?_ | refine Zqc ?_ | refine Zqx ?_ | refine Zqf ?_ | refine Zm tb fun b => ?_ | refine Zb fun b => ?_ | refine Zs tb ?_ | refine Zu tb ?_))
  refine WL_cons rfl (Hv_call tb  rfl rfl rfl (by rw [List.append_nil]) (fun w hs => rwith_t rb R V D c dc at' data w hpl hdb (hD.callP hs (by rw [List.append_nil]))) rfl ?_)
  rw [← hr]
  rintro v Γ' ⟨A, ca, rfl, rfl⟩
  by_cases h0 : r4 = 0
  · subst h0
    (repeat' (first | refine Zv tb ?_ | (refine Zt (fun ht => ?_) (fun ht => ?_) <;> (dsimp only [cmpP, cmpN] at ht) <;> (try (exfalso; omega))) | refine Z0 ?_ | refine Zq ?_ | refine Zr ?_ | refine Zk ?_ | refine Zy ?_ | refine Zn ?_ | refine Zj ?_ | refine Ze ?_ | refine Zx ?_ | refine Zqr ?_ | refine Zqs ?_ | refine Zqc ?_ | refine Zqx ?_ | refine Zqf ?_ | refine Zm tb fun b => ?_ | refine Zb fun b => ?_ | refine Zs tb ?_ | refine Zu tb ?_))
    exact ⟨_, _, .tmp rfl (.tmp rfl (.tmp rfl .nil)), ⟨rfl, A, ca, by rw [if_pos rfl]; rfl⟩, _, perm_picks [0, 1] rfl⟩
  · (repeat' (first | refine Zv tb ?_ | (refine Zt (fun ht => ?_) (fun ht => ?_) <;> (dsimp only [cmpP, cmpN] at ht) <;> (try (exfalso; omega))) | refine Z0 ?_ | refine Zq ?_ | refine Zr ?_ | refine Zk ?_ | refine Zy ?_ | refine Zn ?_ | refine Zj ?_ | refine Ze ?_ | refine Zx ?_ | refine Zqr ?_ | refine Zqs ?_ | refine Zqc ?_ | refine Zqx ?_ | refine Zqf ?_ | refine Zm tb fun b => ?_ | refine Zb fun b => ?_ | refine Zs tb ?_ | refine Zu tb ?_))
    exact ⟨_, _, .tmp rfl (.tmp rfl (.tmp rfl .nil)), ⟨rfl, V, c, by rw [if_neg h0]⟩, _, perm_picks [0, 0] rfl⟩
theorem rHave_t (rb : Nat) (R : Rf) (V : Option Addr) (c : Nat) (w : World) (hpl : R.pl.length ≤ 65536) :
    Tr Try.prog 62 #[.pointer (some ⟨rb, 0, none⟩)] w (refI rb R V c) (fun v Γ => ∃ A ca, v = .slice A (spF R.pl R.pl.length).length ca ∧ Γ = refI rb R V c ++ [.row (.slice A (spF R.pl R.pl.length).length ca) 61 2 (spF R.pl R.pl.length).length (spC.cells (spF R.pl R.pl.length))]) := by
  refine Tr_intro (rs := [.tmp 2]) (args := [.pointer (some ⟨rb, 0, none⟩)]) Try.func62 rfl rfl 8 rfl rfl ?_
  (repeat' (first | refine Zv tb ?_ | (refine Zt (fun ht => ?_) (fun ht => ?_) <;> (dsimp only [cmpP, cmpN] at ht) <;> (try (exfalso; omega))) | refine Z0 ?_ | refine Zq ?_ | refine Zr ?_ | refine Zk ?_ | refine Zy ?_ | refine Zn ?_ | refine Zj ?_ | refine Ze ?_ | refine Zx ?_ | refine Zqr ?_ | refine Zqs ?_ | refine Zqc ?_ | refine Zqx ?_ | refine Zqf ?_ | refine Zm tb fun b => ?_ | refine Zb fun b => ?_ | refine Zs tb ?_ | refine Zu tb ?_))
  refine WL_cons rfl (Hv_call tb (Γ1 := []) rfl rfl rfl (List.Perm.refl _) (fun w hs => rspans_t V R.pl c w (SlO.row hs (List.mem_cons_of_mem _ (List.mem_cons_self ..))) (by omega)) rfl ?_)
  rintro v Γ' ⟨A, ca, rfl, rfl⟩
  (repeat' (first | refine Zv tb ?_ | (refine Zt (fun ht => ?_) (fun ht => ?_) <;> (dsimp only [cmpP, cmpN] at ht) <;> (try (exfalso; omega))) | refine Z0 ?_ | refine Zq ?_ | refine Zr ?_ | refine Zk ?_ | refine Zy ?_ | refine Zn ?_ | refine Zj ?_ | refine Ze ?_ | refine Zx ?_ | refine Zqr ?_ | refine Zqs ?_ | refine Zqc ?_ | refine Zqx ?_ | refine Zqf ?_ | refine Zm tb fun b => ?_ | refine Zb fun b => ?_ | refine Zs tb ?_ | refine Zu tb ?_))
  exact ⟨_, _, .tmp rfl .nil, ⟨A, ca, rfl, rfl⟩, _, perm_picks [1, 1, 0] rfl⟩
theorem rDrop_t (rb : Nat) (R : Rf) (V : Option Addr) (c : Nat) (w : World) :
    Tr Try.prog 67 #[.pointer (some ⟨rb, 0, none⟩)] w (refI rb R V c) (fun v Γ => Γ = refI rb ⟨R.pl, true⟩ V c) := by
  refine Tr_intro (rs := []) (args := [.pointer (some ⟨rb, 0, none⟩)]) Try.func67 rfl rfl 5 rfl rfl ?_
  (repeat' (first | refine Zv tb ?_ | (refine Zt (fun ht => ?_) (fun ht => ?_) <;> (dsimp only [cmpP, cmpN] at ht) <;> (try (exfalso; omega))) | refine Z0 ?_ | refine Zq ?_ | refine Zr ?_ | refine Zk ?_ | refine Zy ?_ | refine Zn ?_ | refine Zj ?_ | refine Ze ?_ | refine Zx ?_ | refine Zqr ?_ | refine Zqs ?_ | refine Zqc ?_ | refine Zqx ?_ | refine Zqf ?_ | refine Zm tb fun b => ?_ | refine Zb fun b => ?_ | refine Zs tb ?_ | refine Zu tb ?_))
  exact ⟨_, _, .nil, rfl, keepAll _⟩
def cntP (pl : List Int) (k : Nat) : Int := rsum (fun x => if 0 ≤ pz pl x.toNat then 1 else 0) 0 k
theorem cntP_bd (pl : List Int) : ∀ k : Nat, 0 ≤ cntP pl k ∧ cntP pl k ≤ k
  | 0 => by simp [cntP, rsum]
  | k + 1 => by
    have := cntP_bd pl k
    unfold cntP at this ⊢
    rw [rsum]; split <;> (push_cast; omega)
set_option maxHeartbeats 1000000 in
theorem rHeld_t (rb : Nat) (R : Rf) (V : Option Addr) (c : Nat) (w : World) (hpl : R.pl.length ≤ 65536) :
    Tr Try.prog 64 #[.pointer (some ⟨rb, 0, none⟩)] w (refI rb R V c) (fun v Γ => v = .int .i64 (if R.dr = true then 0 else cntP R.pl R.pl.length) ∧ Γ = refI rb R V c) := by
  refine Tr_intro (rs := [.tmp 2]) (args := [.pointer (some ⟨rb, 0, none⟩)]) Try.func64 rfl rfl 32 rfl rfl ?_
  refine W_fact (p := V = none → R.pl.length = 0) (fun w hs h => ((hs.row_fact (List.mem_cons_of_mem _ (List.mem_cons_self ..))).1 h).2) fun hV => ?_
  (repeat' (first | refine Zv tb ?_ | (refine Zt (fun ht => ?_) (fun ht => ?_) <;> (dsimp only [cmpP, cmpN] at ht) <;> (try (exfalso; omega))) | refine Z0 ?_ | refine Zq ?_ | refine Zr ?_ | refine Zk ?_ | refine Zy ?_ | refine Zn ?_ | refine Zj ?_ | refine Ze ?_ | refine Zx ?_ | refine Zqr ?_ | refine Zqs ?_ | refine Zqc ?_ | refine Zqx ?_ | refine Zqf ?_ | refine Zm tb fun b => ?_ | refine Zb fun b => ?_ | refine Zs tb ?_ | refine Zu tb ?_))
  refine W_loop (σ := Nat) (fun k => [(0, .pointer (some ⟨rb, 0, none⟩)), (3, .int .i64 (cntP R.pl k)), (4, .int .i64 k)]) (fun k => refI rb R V c) (fun k => k ≤ R.pl.length ∧ (R.dr = true → k = 0)) (fun k => R.pl.length - k) 0 ⟨Nat.zero_le _, fun _ => rfl⟩ (by repeat (first | exact Sub.nil | refine Sub.cons rfl ?_)) (keepAll _) ?_
  rintro k ⟨hk, hkd⟩
  have b1 := cntP_bd R.pl k
  by_cases hlt : k < R.pl.length
  · obtain ⟨a, rfl⟩ : ∃ v, V = some v := by cases V with
      | some v => exact ⟨v, rfl⟩
      | none => have := hV rfl; omega
    have s1 : cntP R.pl (k + 1) = cntP R.pl k + (if 0 ≤ pz R.pl k then 1 else 0) := by unfold cntP; rw [rsum, Int.zero_add, Int.toNat_natCast]
    (repeat' (first | refine Zv tb ?_ | (refine Zt (fun ht => ?_) (fun ht => ?_) <;> (dsimp only [cmpP, cmpN] at ht) <;> (try (exfalso; omega))) | refine Z0 ?_ | refine Zq ?_ | refine Zr ?_ | refine Zk ?_ | refine Zy ?_ | refine Zn ?_ | refine Zj ?_ | refine Ze ?_ | refine Zx ?_ | refine Zqr ?_ | refine Zqs ?_ | refine Zqc ?_ | refine Zqx ?_ | refine Zqf ?_ | refine Zm tb fun b => ?_ | refine Zb fun b => ?_ | refine Zs tb ?_ | refine Zu tb ?_))
    cases hdr : R.dr
    · (repeat' (first | refine Zv tb ?_ | (refine Zt (fun ht => ?_) (fun ht => ?_) <;> (dsimp only [cmpP, cmpN] at ht) <;> (try (exfalso; omega))) | refine Z0 ?_ | refine Zq ?_ | refine Zr ?_ | refine Zk ?_ | refine Zy ?_ | refine Zn ?_ | refine Zj ?_ | refine Ze ?_ | refine Zx ?_ | refine Zqr ?_ | refine Zqs ?_ | refine Zqc ?_ | refine Zqx ?_ | refine Zqf ?_ | refine Zm tb fun b => ?_ | refine Zb fun b => ?_ | refine Zs tb ?_ | refine WL_u (by first | exact Yl_indexAddr tb k rfl rfl rfl rfl hlt | exact Yl_load1 tb rfl rfl (Has.row (by repeat (first | exact List.Mem.head _ | apply List.Mem.tail))) (in_get hlt)) rfl rfl ?_ | refine Zu tb ?_))
      · rw [if_pos (by omega)] at s1
        refine ⟨k + 1, ⟨by omega, fun h => by cases h⟩, by omega, ?_, keepAll _⟩
        rw [s1]; exact (by repeat (first | exact Sub.nil | refine Sub.cons rfl ?_))
      · rw [if_neg (by omega)] at s1
        refine ⟨k + 1, ⟨by omega, fun h => by cases h⟩, by omega, ?_, keepAll _⟩
        rw [s1, Int.add_zero]; exact (by repeat (first | exact Sub.nil | refine Sub.cons rfl ?_))
    · obtain rfl := hkd hdr
      (repeat' (first | refine Zv tb ?_ | (refine Zt (fun ht => ?_) (fun ht => ?_) <;> (dsimp only [cmpP, cmpN] at ht) <;> (try (exfalso; omega))) | refine Z0 ?_ | refine Zq ?_ | refine Zr ?_ | refine Zk ?_ | refine Zy ?_ | refine Zn ?_ | refine Zj ?_ | refine Ze ?_ | refine Zx ?_ | refine Zqr ?_ | refine Zqs ?_ | refine Zqc ?_ | refine Zqx ?_ | refine Zqf ?_ | refine Zm tb fun b => ?_ | refine Zb fun b => ?_ | refine Zs tb ?_ | refine Zu tb ?_))
      exact ⟨_, _, .tmp rfl .nil, ⟨by rw [if_pos rfl]; rfl, rfl⟩, keepAll _⟩
  · obtain rfl : k = R.pl.length := by omega
    (repeat' (first | refine Zv tb ?_ | (refine Zt (fun ht => ?_) (fun ht => ?_) <;> (dsimp only [cmpP, cmpN] at ht) <;> (try (exfalso; omega))) | refine Z0 ?_ | refine Zq ?_ | refine Zr ?_ | refine Zk ?_ | refine Zy ?_ | refine Zn ?_ | refine Zj ?_ | refine Ze ?_ | refine Zx ?_ | refine Zqr ?_ | refine Zqs ?_ | refine Zqc ?_ | refine Zqx ?_ | refine Zqf ?_ | refine Zm tb fun b => ?_ | refine Zb fun b => ?_ | refine Zs tb ?_ | refine Zu tb ?_))
    refine ⟨_, _, .tmp rfl .nil, ⟨?_, rfl⟩, keepAll _⟩
    cases hdr : R.dr
    · rw [if_neg (by decide)]; rfl
    · rw [if_pos rfl, hkd hdr]; rfl
def rdL (pl : List Int) (f : Int) (k : Nat) : List Int := (List.range k).map fun j : Nat => IntKind.u8.wrap (pz pl (f + j).toNat)
def readR (R : Rf) (s : Sp) : List Int × Bool := if 0 ≤ s.1 ∧ s.1 < s.2 ∧ s.2 ≤ R.pl.length ∧ R.dr = false ∧ ∀ j, j < (s.2 - s.1).toNat → 0 ≤ pz R.pl (s.1 + j).toNat then (rdL R.pl s.1 (s.2 - s.1).toNat, true) else ([], false)
theorem rdL_succ (pl : List Int) (f : Int) (k : Nat) : rdL pl f (k + 1) = rdL pl f k ++ [IntKind.u8.wrap (pz pl (f + k).toNat)] := by simp [rdL, List.range_succ]
theorem rdL_len (pl : List Int) (f : Int) (k : Nat) : (rdL pl f k).length = k := by simp [rdL]
theorem Rel.read {B : Bf} {R : Rf} (h : Rel B R) (s : Sp) : readR R s = readF B s := by
  have hr := h.wb.right
  by_cases h0 : 0 ≤ s.1 ∧ s.1 < s.2
  rotate_left
  · unfold readR readF
    rw [if_neg (fun hh => h0 ⟨hh.1, hh.2.1⟩), if_neg (fun hh => h0 ⟨hh.2.1, hh.2.2.1⟩)]
  have hc := covers_mem hr h0.1 h0.2
  have key : (s.2 ≤ R.pl.length ∧ ∀ j, j < (s.2 - s.1).toNat → 0 ≤ pz R.pl (s.1 + j).toNat) ↔ covers B.came s = true := by
    rw [hc]
    constructor
    · rintro ⟨h1, h2⟩ x hx1 hx2
      have := h2 (x - s.1).toNat (by omega)
      rw [show s.1 + ((x - s.1).toNat : Int) = x by omega] at this
      have := (h.has x.toNat).1 this
      rwa [show ((x.toNat : Nat) : Int) = x by omega] at this
    · intro hm
      refine ⟨?_, fun j hj => (h.has _).2 ?_⟩
      · have := (lastT_mem hr).1 _ (hm (s.2 - 1) (by omega) (by omega))
        rw [h.len]; omega
      · have := hm (s.1 + j) (by omega) (by omega)
        rwa [show (((s.1 + j).toNat : Nat) : Int) = s.1 + j by omega]
  unfold readR readF
  by_cases hd : B.dr = false
  rotate_left
  · rw [if_neg (fun hh => hd (by rw [← h.dr]; exact hh.2.2.2.1)), if_neg (fun hh => hd hh.1)]
  by_cases hcv : covers B.came s = true
  rotate_left
  · rw [if_neg (fun hh => hcv (key.1 ⟨hh.2.2.1, hh.2.2.2.2⟩)), if_neg (fun hh => hcv hh.2.2.2)]
  have k2 := key.2 hcv
  rw [if_pos ⟨h0.1, h0.2, k2.1, by rw [h.dr]; exact hd, k2.2⟩, if_pos ⟨hd, h0.1, h0.2, hcv⟩]
  congr 1
  have hlen : s.2 ≤ B.bytes.length := by
    have := h.wb.has hd _ (hc.1 hcv (s.2 - 1) (by omega) (by omega))
    omega
  refine by_ext (by rw [rdL_len]; simp; omega) fun j hj => ?_
  rw [rdL_len] at hj
  unfold rdL
  rw [bz_map hj, bz_drop hj]
  have hm := hc.1 hcv (s.1 + j) (by omega) (by omega)
  have e : (((s.1 + j).toNat : Nat) : Int) = s.1 + j := by omega
  have hv := h.val hd (s.1 + j).toNat (by rw [e]; exact hm)
  have hp := k2.2 j hj
  have hb := h.byte (s.1 + j).toNat
  rw [wrap_u8 hp hb, ← hv]
  congr 1
  omega
end Go.Proofs.Ytdnngagahhleiaa
