/- BlocksBuffers: the walk. -/
import Derived.Test.YtdnngagahhleiaaB29
import Derived.Test.YtdnngagahhleiaaB30
import Derived.Test.YtdnngagahhleiaaB31
import Derived.Test.YtdnngagahhleiaaB32
import Derived.Test.YtdnngagahhleiaaB33
namespace Go.Sx
set_option linter.unusedVariables false
set_option linter.unusedSimpArgs false
theorem Tr.perm {P : Program} {f : FuncId} {args : Array Value} {w : World} {Γ Γ' : List It} {R : Value → List It → Prop} (hp : Γ'.Perm Γ) (h : Tr P f args w Γ R) : Tr P f args w Γ' R := fun hs => (h (hs.perm hp)).mono fun e w' ⟨v, G, he, hR, hst⟩ =>
  have hm : ∀ b, b ∈ fps Γ ↔ b ∈ fps Γ' := fun b => ((hp.symm.flatMap_right It.fp).mem_iff)
  ⟨v, G, he, hR, ⟨hst.os, hst.tape, hst.output, hst.size, fun b h1 h2 => hst.old b h1 (fun hb => h2 ((hm b).1 hb)), hst.ok, hst.nd, fun b hb => (hst.mine b hb).imp (hm b).1 id⟩⟩
theorem Tr.frame {P : Program} {f : FuncId} {args : Array Value} {w : World} {Γ : List It} {R : Value → List It → Prop} (Γ2 : List It) (h : Tr P f args w Γ R) : Tr P f args w (Γ ++ Γ2) (fun v G => ∃ G1, R v G1 ∧ G = G1 ++ Γ2) := fun hs =>
  (h hs.st.left.sep).mono fun e w' ⟨v, G, he, hR, hst⟩ => ⟨v, _, he, ⟨G, hR, rfl⟩, hs.st.call hst⟩
theorem Tr.post {P : Program} {f : FuncId} {args : Array Value} {w : World} {Γ : List It} {R R' : Value → List It → Prop} (h : Tr P f args w Γ R) (hr : ∀ v G, R v G → ∃ G', R' v G' ∧ G.Perm G') : Tr P f args w Γ R' := fun hs =>
  (h hs).mono fun e w' ⟨v, G, he, hR, hst⟩ => by
    obtain ⟨G', h1, h2⟩ := hr v G hR
    exact ⟨v, G', he, h1, hst.perm h2⟩
theorem SlO.less {w : World} {X X' : List Nat} {A : Option Addr} {n cap : Nat} {cs : List Value} (h : SlO w X A n cap cs) (hx : ∀ b ∈ X', b ∈ X) : SlO w X' A n cap cs :=
  ⟨fun hne => by
    obtain ⟨a, h1, h2⟩ := h.rd hne
    exact ⟨a, h1, h2.cells, h2.lt, fun hb => h2.nx (hx _ hb)⟩, h.nil, h.le, h.max⟩
end Go.Sx
namespace Go.Proofs.Ytdnngagahhleiaa
open Go.Sx
attribute [local irreducible] W WL WP Hv Yl WQ At QP QF Rnd
set_option maxRecDepth 10000
set_option linter.unusedVariables false
set_option linter.unusedSimpArgs false
theorem step_w (two : Bool) (bw bb rb dc c cu c' N : Nat) (B : Bf) (R : Rf) (V U V' D : Option Addr) (po qo : Value) (s : Sst) (kind at' s1 s2 : Int) (data : List Int) (w : World) (hR : Rel B R) (hs0 : s.Ok N) (hN : N ≤ 2000000) (hdb : ∀ k, k < data.length → 0 ≤ bz data k ∧ bz data k ≤ 255) (hdm : data.length ≤ 1048576)
    (hD : SlO w (fps (stI bw two bb B V c U cu rb R V' c' po qo s)) D data.length dc (byC.cells data)) :
    Tr Try.prog 30 #[.pointer (some ⟨bw, 0, none⟩), .agg #[.int .i64 kind, .bool two, .int .i64 at', .slice D data.length dc, .int .i64 s1, .int .i64 s2]] w (stI bw two bb B V c U cu rb R V' c' po qo s) (StP bw two po qo N) := by
  by_cases h1 : kind = 1
  · subst h1; cases two
    · exact stepPut0 bw bb rb dc c cu c' N B R V U V' D po qo s at' s1 s2 data w hR hs0 hN hdb hdm hD
    · exact stepPut1 bw bb rb dc c cu c' N B R V U V' D po qo s at' s1 s2 data w hR hs0 hN hdb hdm hD
  by_cases h2 : kind = 2
  · subst h2; cases two
    · exact stepLook0 bw bb rb dc c cu c' N B R V U V' D po qo s at' s1 s2 data w hR hs0 hN hdb hdm hD
    · exact stepLook1 bw bb rb dc c cu c' N B R V U V' D po qo s at' s1 s2 data w hR hs0 hN hdb hdm hD
  by_cases h3 : kind = 3
  · subst h3; cases two
    · exact stepHave0 bw bb rb dc c cu c' N B R V U V' D po qo s at' s1 s2 data w hR hs0 hN hdb hdm hD
    · exact stepHave1 bw bb rb dc c cu c' N B R V U V' D po qo s at' s1 s2 data w hR hs0 hN hdb hdm hD
  by_cases h4 : kind = 4
  · subst h4; cases two
    · exact stepHeld0 bw bb rb dc c cu c' N B R V U V' D po qo s at' s1 s2 data w hR hs0 hN hdb hdm hD
    · exact stepHeld1 bw bb rb dc c cu c' N B R V U V' D po qo s at' s1 s2 data w hR hs0 hN hdb hdm hD
  by_cases h5 : kind = 5
  · subst h5; cases two
    · exact stepRead0 bw bb rb dc c cu c' N B R V U V' D po qo s at' s1 s2 data w hR hs0 hN hdb hdm hD
    · exact stepRead1 bw bb rb dc c cu c' N B R V U V' D po qo s at' s1 s2 data w hR hs0 hN hdb hdm hD
  by_cases h6 : kind = 6
  · subst h6; cases two
    · exact stepDrop0 bw bb rb dc c cu c' N B R V U V' D po qo s at' s1 s2 data w hR hs0 hN hdb hdm hD
    · exact stepDrop1 bw bb rb dc c cu c' N B R V U V' D po qo s at' s1 s2 data w hR hs0 hN hdb hdm hD
  by_cases h7 : kind = 7
  · subst h7; cases two
    · exact stepNew0 bw bb rb dc c cu c' N B R V U V' D po qo s at' s1 s2 data w hR hs0 hN hdb hdm hD
    · exact stepNew1 bw bb rb dc c cu c' N B R V U V' D po qo s at' s1 s2 data w hR hs0 hN hdb hdm hD
  cases two
  · exact stepOther0 bw bb rb dc c cu c' N B R V U V' D po qo s kind at' s1 s2 data w hR hs0 hN hdb hdm hD ⟨h1, h2, h3, h4, h5, h6, h7⟩
  · exact stepOther1 bw bb rb dc c cu c' N B R V U V' D po qo s kind at' s1 s2 data w hR hs0 hN hdb hdm hD ⟨h1, h2, h3, h4, h5, h6, h7⟩
/-- a side of a World. -/
structure Sd where
  bb : Nat
  rb : Nat
  B : Bf
  R : Rf
  V : Option Addr
  U : Option Addr
  V' : Option Addr
  c : Nat
  cu : Nat
  c' : Nat
def Sd.items (x : Sd) : List It := bufI x.bb x.B x.V x.c x.U x.cu ++ refI x.rb x.R x.V' x.c'
def Sst.items (s : Sst) : List It := s.rowR :: s.rowW :: s.rowS :: s.rowA :: s.T
def wdM (bw : Nat) (x y : Sd) (s : Sst) : It := .blk bw [ptV x.bb, ptV y.bb, ptV x.rb, ptV y.rb, .slice s.RV (2 * s.p1) s.rc, .slice s.WV (2 * s.p1) s.wc, .slice s.SV (2 * s.p2) s.sc, .slice s.AV (2 * s.p2) s.ac] 85
def stM (bw : Nat) (x y : Sd) (s : Sst) : List It := wdM bw x y s :: (x.items ++ (y.items ++ s.items))
theorem perm_m1 {a : It} {P Q S : List It} : (a :: (P ++ (Q ++ S))).Perm ((a :: (P ++ S)) ++ Q) := by
  refine List.Perm.cons a ?_
  show (P ++ (Q ++ S)).Perm ((P ++ S) ++ Q)
  rw [List.append_assoc]
  exact List.Perm.append_left P List.perm_append_comm
theorem perm_m2 {a : It} {P Q S : List It} : (a :: (P ++ (Q ++ S))).Perm ((a :: (Q ++ S)) ++ P) := List.Perm.cons a List.perm_append_comm
theorem perm_m3 {a : It} {P Q S : List It} : (a :: (P ++ (Q ++ S))).Perm ((a :: S) ++ (P ++ Q)) := by
  refine List.Perm.cons a ?_
  rw [← List.append_assoc]
  exact List.perm_append_comm
theorem stepM_t (two : Bool) (bw dc N : Nat) (x y : Sd) (D : Option Addr) (s : Sst) (kind at' s1 s2 : Int) (data : List Int) (w : World) (hx : Rel x.B x.R) (hy : Rel y.B y.R) (hs0 : s.Ok N) (hN : N ≤ 2000000) (hdb : ∀ k, k < data.length → 0 ≤ bz data k ∧ bz data k ≤ 255) (hdm : data.length ≤ 1048576)
    (hD : SlO w (fps (stM bw x y s)) D data.length dc (byC.cells data)) :
    Tr Try.prog 30 #[.pointer (some ⟨bw, 0, none⟩), .agg #[.int .i64 kind, .bool two, .int .i64 at', .slice D data.length dc, .int .i64 s1, .int .i64 s2]] w (stM bw x y s)
      (fun v Γ => v = .bool true ∧ ∃ x' y' s', Rel x'.B x'.R ∧ Rel y'.B y'.R ∧ Sst.Ok s' (N + 1) ∧ Γ = stM bw x' y' s') := by
  cases two
  · have hp : (stM bw x y s).Perm (stI bw false x.bb x.B x.V x.c x.U x.cu x.rb x.R x.V' x.c' (ptV y.bb) (ptV y.rb) s ++ y.items) := by
      have := perm_m1 (a := wdM bw x y s) (P := x.items) (Q := y.items) (S := s.items)
      unfold stM
      refine this.trans (List.Perm.of_eq ?_)
      congr 1
    have hsub : ∀ b ∈ fps (stI bw false x.bb x.B x.V x.c x.U x.cu x.rb x.R x.V' x.c' (ptV y.bb) (ptV y.rb) s), b ∈ fps (stM bw x y s) := fun b hb => by
      have := (hp.symm.flatMap_right It.fp).mem_iff (a := b)
      exact this.1 (by simp only [List.flatMap_append, List.mem_append]; exact .inl hb)
    refine (((step_w false bw x.bb x.rb dc x.c x.cu x.c' N x.B x.R x.V x.U x.V' D (ptV y.bb) (ptV y.rb) s kind at' s1 s2 data w hx hs0 hN hdb hdm (hD.less hsub)).frame y.items).perm hp).post ?_
    rintro v G ⟨G1, ⟨hv, bb, B, V, c, U, cu, rb, R, V', c', s', h1, h2, rfl⟩, rfl⟩
    refine ⟨_, ⟨hv, ⟨bb, rb, B, R, V, U, V', c, cu, c'⟩, y, s', h1, hy, h2, rfl⟩, ?_⟩
    exact (perm_m1 (a := wdM bw ⟨bb, rb, B, R, V, U, V', c, cu, c'⟩ y s') (P := Sd.items ⟨bb, rb, B, R, V, U, V', c, cu, c'⟩) (Q := y.items) (S := s'.items)).symm
  · have hp : (stM bw x y s).Perm (stI bw true y.bb y.B y.V y.c y.U y.cu y.rb y.R y.V' y.c' (ptV x.bb) (ptV x.rb) s ++ x.items) := by
      have := perm_m2 (a := wdM bw x y s) (P := x.items) (Q := y.items) (S := s.items)
      unfold stM
      refine this.trans (List.Perm.of_eq ?_)
      congr 1
    have hsub : ∀ b ∈ fps (stI bw true y.bb y.B y.V y.c y.U y.cu y.rb y.R y.V' y.c' (ptV x.bb) (ptV x.rb) s), b ∈ fps (stM bw x y s) := fun b hb => by
      have := (hp.symm.flatMap_right It.fp).mem_iff (a := b)
      exact this.1 (by simp only [List.flatMap_append, List.mem_append]; exact .inl hb)
    refine (((step_w true bw y.bb y.rb dc y.c y.cu y.c' N y.B y.R y.V y.U y.V' D (ptV x.bb) (ptV x.rb) s kind at' s1 s2 data w hy hs0 hN hdb hdm (hD.less hsub)).frame x.items).perm hp).post ?_
    rintro v G ⟨G1, ⟨hv, bb, B, V, c, U, cu, rb, R, V', c', s', h1, h2, rfl⟩, rfl⟩
    refine ⟨_, ⟨hv, x, ⟨bb, rb, B, R, V, U, V', c, cu, c'⟩, s', hx, h1, h2, rfl⟩, ?_⟩
    exact (perm_m2 (a := wdM bw x ⟨bb, rb, B, R, V, U, V', c, cu, c'⟩ s') (P := x.items) (Q := Sd.items ⟨bb, rb, B, R, V, U, V', c, cu, c'⟩) (S := s'.items)).symm
/-- a script's step. -/
structure OpM where
  kind : Int
  at' : Int
  two : Bool
  D : Option Addr
  data : List Int
  dc : Nat
  s : Sp
def opC : Cod OpM := ⟨6, fun o => [.int .i64 o.kind, .bool o.two, .int .i64 o.at', .slice o.D o.data.length o.dc, .int .i64 o.s.1, .int .i64 o.s.2], fun _ => rfl⟩
structure OpOk (W : World) (o : OpM) : Prop where
  sl : SlO W [] o.D o.data.length o.dc (byC.cells o.data)
  byte : ∀ k, k < o.data.length → 0 ≤ bz o.data k ∧ bz o.data k ≤ 255
  len : o.data.length ≤ 1048576
theorem slNil {w : World} {X : List Nat} : SlO w X none 0 0 (byC.cells []) := ⟨fun h => absurd rfl h, fun _ => ⟨rfl, rfl⟩, Nat.le_refl _, by omega⟩
def sst0 : Sst := ⟨none, none, none, none, 0, 0, 0, 0, 0, 0, fun _ => none, fun _ => none, fun _ => none, fun _ => 0, fun _ => 0, fun _ => 0, fun _ => [], fun _ => []⟩
theorem sst0_ok : sst0.Ok 0 := ⟨Nat.le_refl _, Nat.le_refl _, fun i h => absurd h (Nat.not_lt_zero _), fun i h => absurd h (Nat.not_lt_zero _)⟩
def sd0 (bb rb : Nat) : Sd := ⟨bb, rb, eB, ⟨[], false⟩, none, none, none, 0, 0, 0⟩
set_option maxHeartbeats 4000000 in
theorem buffers_t (A : Option Addr) (l : List OpM) (cap : Nat) (w : World) (h : SlO w [] A l.length cap (opC.cells l)) (hm : l.length ≤ 1048576) (ho : ∀ o ∈ l, OpOk w o) :
    Tr Try.prog 8 #[.slice A l.length cap] w [] (fun v Γ => v = .bool true ∧ Γ = []) := by
  refine Tr_intro (rs := [.tmp 2]) (args := [.slice A l.length cap]) Try.func8 rfl rfl 76 rfl rfl ?_
  (repeat' (first | refine Zv tb ?_ | (refine Zt (fun ht => ?_) (fun ht => ?_) <;> (dsimp only [cmpP, cmpN] at ht) <;> (try (exfalso; omega))) | refine Z0 ?_ | refine Zq ?_ | refine Zr ?_ | refine Zk ?_ | refine Zy ?_ | refine Zn ?_ | refine Zj ?_ | refine Ze ?_ | refine Zx ?_ | refine Zqr ?_ | refine Zqs ?_ | refine Zqc ?_ | refine Zqx ?_ | refine Zqf ?_ | refine Zm tb fun b => ?_ | refine Zb fun b => ?_ | refine Zs tb ?_ | refine Zu tb ?_))
  refine WL_cons rfl (Hv_call tb (Γ1 := []) rfl rfl rfl (List.Perm.refl _) (fun w hs => awake_t w) rfl ?_)
  rintro v Γ' ⟨rfl, rfl⟩
  (repeat' (first | refine Zv tb ?_ | (refine Zt (fun ht => ?_) (fun ht => ?_) <;> (dsimp only [cmpP, cmpN] at ht) <;> (try (exfalso; omega))) | refine Z0 ?_ | refine Zq ?_ | refine Zr ?_ | refine Zk ?_ | refine Zy ?_ | refine Zn ?_ | refine Zj ?_ | refine Ze ?_ | refine Zx ?_ | refine Zqr ?_ | refine Zqs ?_ | refine Zqc ?_ | refine Zqx ?_ | refine Zqf ?_ | refine Zm tb fun b => ?_ | refine Zb fun b => ?_ | refine Zs tb ?_ | refine Zu tb ?_))
  revert b
  intro bw
  refine WL_cons rfl (Hv_call tb  rfl rfl rfl (perm_picks [0] rfl) (fun w hs => makes_w bw false (.pointer none) (.pointer none) (.pointer none) (.pointer none) (.slice none 0 0) (.slice none 0 0) (.slice none 0 0) (.slice none 0 0) w) rfl ?_)
  rintro v Γ' ⟨rfl, b0, r0, rfl⟩
  (repeat' (first | refine Zv tb ?_ | (refine Zt (fun ht => ?_) (fun ht => ?_) <;> (dsimp only [cmpP, cmpN] at ht) <;> (try (exfalso; omega))) | refine Z0 ?_ | refine Zq ?_ | refine Zr ?_ | refine Zk ?_ | refine Zy ?_ | refine Zn ?_ | refine Zj ?_ | refine Ze ?_ | refine Zx ?_ | refine Zqr ?_ | refine Zqs ?_ | refine Zqc ?_ | refine Zqx ?_ | refine Zqf ?_ | refine Zm tb fun b => ?_ | refine Zb fun b => ?_ | refine Zs tb ?_ | refine Zu tb ?_))
  refine WL_cons rfl (Hv_call tb  rfl rfl rfl (perm_picks [0] rfl) (fun w hs => makes_w bw true (.pointer none) (.pointer none) (ptV b0) (ptV r0) (.slice none 0 0) (.slice none 0 0) (.slice none 0 0) (.slice none 0 0) w) rfl ?_)
  rintro v Γ' ⟨rfl, b1, r1, rfl⟩
  (repeat' (first | refine Zv tb ?_ | (refine Zt (fun ht => ?_) (fun ht => ?_) <;> (dsimp only [cmpP, cmpN] at ht) <;> (try (exfalso; omega))) | refine Z0 ?_ | refine Zq ?_ | refine Zr ?_ | refine Zk ?_ | refine Zy ?_ | refine Zn ?_ | refine Zj ?_ | refine Ze ?_ | refine Zx ?_ | refine Zqr ?_ | refine Zqs ?_ | refine Zqc ?_ | refine Zqx ?_ | refine Zqf ?_ | refine Zm tb fun b => ?_ | refine Zb fun b => ?_ | refine Zs tb ?_ | refine Zu tb ?_))
  refine W_nilrow 43 1 ?_
  refine W_nilrow 43 1 ?_
  refine W_nilrow 9 1 ?_
  refine W_nilrow 26 1 ?_
  refine W_cutB (σ := Sd × Sd × Sst) (fun | (x, y, s) => [(4, .pointer (some ⟨bw, 0, none⟩))]) (fun | (x, y, s) => stM bw x y s) (fun | (x, y, s) => Rel x.B x.R ∧ Rel y.B y.R ∧ s.Ok l.length) ?_ ?_
  · refine W_loop (σ := Nat × Sd × Sd × Sst) (fun | (i, x, y, s) => [(0, .slice A l.length cap), (4, .pointer (some ⟨bw, 0, none⟩)), (7, .int .i64 i)]) (fun | (i, x, y, s) => stM bw x y s) (fun | (i, x, y, s) => i ≤ l.length ∧ Rel x.B x.R ∧ Rel y.B y.R ∧ s.Ok i) (fun | (i, _) => l.length - i)
      (0, sd0 b0 r0, sd0 b1 r1, sst0) ⟨Nat.zero_le _, Rel.new, Rel.new, sst0_ok⟩ (by repeat (first | exact Sub.nil | refine Sub.cons rfl ?_)) ⟨_, perm_picks [4, 9, 9, 9, 9, 9, 4, 4, 4, 4, 4, 0, 0, 0, 0] rfl⟩ ?_
    rintro ⟨i, x, y, s⟩ ⟨hi, hx, hy, hs0⟩
    dsimp only at hi hx hy hs0 ⊢
    by_cases hlt : i < l.length
    · obtain ⟨a, rfl, hHa⟩ := h.rd (cells_ne opC (by intro h; simp [h] at hlt) (by decide))
      have hok := ho l[i] (List.getElem_mem _)
      (repeat' (first | refine Zv tb ?_ | (refine Zt (fun ht => ?_) (fun ht => ?_) <;> (dsimp only [cmpP, cmpN] at ht) <;> (try (exfalso; omega))) | refine Z0 ?_ | refine Zq ?_ | refine Zr ?_ | refine Zk ?_ | refine Zy ?_ | refine Zn ?_ | refine Zj ?_ | refine Ze ?_ | refine Zx ?_ | refine Zqr ?_ | refine Zqs ?_ | refine Zqc ?_ | refine Zqx ?_ | refine Zqf ?_ | refine Zm tb fun b => ?_ | refine Zb fun b => ?_ | refine Zs tb ?_ | refine WL_u (by first | exact Yl_indexAddr tb i rfl rfl rfl rfl hlt | exact Yl_loadA tb _ rfl rfl (Has.old hHa) (cells_seg opC hlt) rfl) rfl rfl ?_ | refine Zu tb ?_))
      refine WL_cons rfl (Hv_call tb  rfl rfl rfl (by rw [List.append_nil]) (fun w hs => stepM_t l[i].two bw l[i].dc i x y l[i].D s l[i].kind l[i].at' l[i].s.1 l[i].s.2 l[i].data w hx hy hs0 (by omega) hok.byte hok.len (hok.sl.callP hs (by rw [List.append_nil]))) rfl ?_)
      rintro v Γ' ⟨rfl, x', y', s', hx', hy', hs', rfl⟩
      (repeat' (first | refine Zv tb ?_ | (refine Zt (fun ht => ?_) (fun ht => ?_) <;> (dsimp only [cmpP, cmpN] at ht) <;> (try (exfalso; omega))) | refine Z0 ?_ | refine Zq ?_ | refine Zr ?_ | refine Zk ?_ | refine Zy ?_ | refine Zn ?_ | refine Zj ?_ | refine Ze ?_ | refine Zx ?_ | refine Zqr ?_ | refine Zqs ?_ | refine Zqc ?_ | refine Zqx ?_ | refine Zqf ?_ | refine Zm tb fun b => ?_ | refine Zb fun b => ?_ | refine Zs tb ?_ | refine Zu tb ?_))
      exact ⟨(i + 1, x', y', s'), ⟨by dsimp only; omega, hx', hy', hs'⟩, by dsimp only; omega, (by repeat (first | exact Sub.nil | refine Sub.cons rfl ?_)), [], List.Perm.refl _⟩
    · obtain rfl : i = l.length := by omega
      (repeat' (first | refine Zv tb ?_ | (refine Zt (fun ht => ?_) (fun ht => ?_) <;> (dsimp only [cmpP, cmpN] at ht) <;> (try (exfalso; omega))) | refine Z0 ?_ | refine Zq ?_ | refine Zr ?_ | refine Zk ?_ | refine Zy ?_ | refine Zn ?_ | refine Zj ?_ | refine Ze ?_ | refine Zx ?_ | refine Zqr ?_ | refine Zqs ?_ | refine Zqc ?_ | refine Zqx ?_ | refine Zqf ?_ | refine Zm tb fun b => ?_ | refine Zb fun b => ?_ | refine Zs tb ?_ | refine Zu tb ?_))
      exact ⟨(x, y, s), ⟨hx, hy, hs0⟩, (by repeat (first | exact Sub.nil | refine Sub.cons rfl ?_)), keepAll _⟩
  rintro ⟨x, y, s⟩ ⟨hx, hy, hs0⟩
  dsimp only at hx hy hs0 ⊢
  (repeat' (first | refine Zv tb ?_ | (refine Zt (fun ht => ?_) (fun ht => ?_) <;> (dsimp only [cmpP, cmpN] at ht) <;> (try (exfalso; omega))) | refine Z0 ?_ | refine Zq ?_ | refine Zr ?_ | refine Zk ?_ | refine Zy ?_ | refine Zn ?_ | refine Zj ?_ | refine Ze ?_ | refine Zx ?_ | refine Zqr ?_ | refine Zqs ?_ | refine Zqc ?_ | refine Zqx ?_ | refine Zqf ?_ | refine Zm tb fun b => ?_ | refine Zb fun b => ?_ | refine Zs tb ?_ | refine Zu tb ?_))
  refine W_cutB (σ := Sd × Sd × Sst) (fun | (x, y, s) => [(4, .pointer (some ⟨bw, 0, none⟩))]) (fun | (x, y, s) => stM bw x y s) (fun | (x, y, s) => s.Ok (l.length + 6)) ?_ ?_
  · refine W_loop (σ := Nat × Sd × Sd × Sst) (fun | (k, x, y, s) => [(4, .pointer (some ⟨bw, 0, none⟩)), (9, .int .i64 k)]) (fun | (k, x, y, s) => stM bw x y s) (fun | (k, x, y, s) => k ≤ 2 ∧ Rel x.B x.R ∧ Rel y.B y.R ∧ s.Ok (l.length + 3 * k)) (fun | (k, _) => 2 - k)
      (0, x, y, s) ⟨by omega, hx, hy, hs0⟩ (by repeat (first | exact Sub.nil | refine Sub.cons rfl ?_)) (keepAll _) ?_
    clear hx hy hs0
    clear x y s
    rintro ⟨k, x, y, s⟩ ⟨hk, hx, hy, hs0⟩
    dsimp only at hk hx hy hs0 ⊢
    by_cases hlt : k < 2
    · have hk2 : k = 0 ∨ k = 1 := by omega
      rcases hk2 with rfl | rfl
      · (repeat' (first | refine Zv tb ?_ | (refine Zt (fun ht => ?_) (fun ht => ?_) <;> (dsimp only [cmpP, cmpN] at ht) <;> (try (exfalso; omega))) | refine Z0 ?_ | refine Zq ?_ | refine Zr ?_ | refine Zk ?_ | refine Zy ?_ | refine Zn ?_ | refine Zj ?_ | refine Ze ?_ | refine Zx ?_ | refine Zqr ?_ | refine Zqs ?_ | refine Zqc ?_ | refine Zqx ?_ | refine Zqf ?_ | refine Zm tb fun b => ?_ | refine Zb fun b => ?_ | refine Zs tb ?_ | refine Zu tb ?_))
        refine WL_cons rfl (Hv_call tb  rfl rfl rfl (by rw [List.append_nil]) (fun w hs => stepM_t false bw 0 (l.length + 0) x y none s 3 0 0 0 [] w hx hy hs0 (by omega) (fun k hk => by cases hk) (by decide) slNil) rfl ?_)
        rintro v Γ' ⟨rfl, x', y', s', hx', hy', hs0', rfl⟩
        (repeat' (first | refine Zv tb ?_ | (refine Zt (fun ht => ?_) (fun ht => ?_) <;> (dsimp only [cmpP, cmpN] at ht) <;> (try (exfalso; omega))) | refine Z0 ?_ | refine Zq ?_ | refine Zr ?_ | refine Zk ?_ | refine Zy ?_ | refine Zn ?_ | refine Zj ?_ | refine Ze ?_ | refine Zx ?_ | refine Zqr ?_ | refine Zqs ?_ | refine Zqc ?_ | refine Zqx ?_ | refine Zqf ?_ | refine Zm tb fun b => ?_ | refine Zb fun b => ?_ | refine Zs tb ?_ | refine Zu tb ?_))
        refine WL_cons rfl (Hv_call tb  rfl rfl rfl (by rw [List.append_nil]) (fun w hs => stepM_t false bw 0 (l.length + 1) x' y' none s' 4 0 0 0 [] w hx' hy' hs0' (by omega) (fun k hk => by cases hk) (by decide) slNil) rfl ?_)
        rintro v Γ' ⟨rfl, x'', y'', s'', hx'', hy'', hs0'', rfl⟩
        (repeat' (first | refine Zv tb ?_ | (refine Zt (fun ht => ?_) (fun ht => ?_) <;> (dsimp only [cmpP, cmpN] at ht) <;> (try (exfalso; omega))) | refine Z0 ?_ | refine Zq ?_ | refine Zr ?_ | refine Zk ?_ | refine Zy ?_ | refine Zn ?_ | refine Zj ?_ | refine Ze ?_ | refine Zx ?_ | refine Zqr ?_ | refine Zqs ?_ | refine Zqc ?_ | refine Zqx ?_ | refine Zqf ?_ | refine Zm tb fun b => ?_ | refine Zb fun b => ?_ | refine Zs tb ?_ | refine Zu tb ?_))
        refine WL_cons rfl (Hv_call tb  rfl rfl rfl (by rw [List.append_nil]) (fun w hs => stepM_t false bw 0 (l.length + 2) x'' y'' none s'' 5 0 0 1 [] w hx'' hy'' hs0'' (by omega) (fun k hk => by cases hk) (by decide) slNil) rfl ?_)
        rintro v Γ' ⟨rfl, x''', y''', s''', hx''', hy''', hs0''', rfl⟩
        (repeat' (first | refine Zv tb ?_ | (refine Zt (fun ht => ?_) (fun ht => ?_) <;> (dsimp only [cmpP, cmpN] at ht) <;> (try (exfalso; omega))) | refine Z0 ?_ | refine Zq ?_ | refine Zr ?_ | refine Zk ?_ | refine Zy ?_ | refine Zn ?_ | refine Zj ?_ | refine Ze ?_ | refine Zx ?_ | refine Zqr ?_ | refine Zqs ?_ | refine Zqc ?_ | refine Zqx ?_ | refine Zqf ?_ | refine Zm tb fun b => ?_ | refine Zb fun b => ?_ | refine Zs tb ?_ | refine Zu tb ?_))
        exact ⟨(1, x''', y''', s'''), ⟨by dsimp only; omega, hx''', hy''', hs0'''⟩, by dsimp only; omega, (by repeat (first | exact Sub.nil | refine Sub.cons rfl ?_)), [], List.Perm.refl _⟩
      · (repeat' (first | refine Zv tb ?_ | (refine Zt (fun ht => ?_) (fun ht => ?_) <;> (dsimp only [cmpP, cmpN] at ht) <;> (try (exfalso; omega))) | refine Z0 ?_ | refine Zq ?_ | refine Zr ?_ | refine Zk ?_ | refine Zy ?_ | refine Zn ?_ | refine Zj ?_ | refine Ze ?_ | refine Zx ?_ | refine Zqr ?_ | refine Zqs ?_ | refine Zqc ?_ | refine Zqx ?_ | refine Zqf ?_ | refine Zm tb fun b => ?_ | refine Zb fun b => ?_ | refine Zs tb ?_ | refine Zu tb ?_))
        refine WL_cons rfl (Hv_call tb  rfl rfl rfl (by rw [List.append_nil]) (fun w hs => stepM_t true bw 0 (l.length + 3) x y none s 3 0 0 0 [] w hx hy hs0 (by omega) (fun k hk => by cases hk) (by decide) slNil) rfl ?_)
        rintro v Γ' ⟨rfl, x', y', s', hx', hy', hs0', rfl⟩
        (repeat' (first | refine Zv tb ?_ | (refine Zt (fun ht => ?_) (fun ht => ?_) <;> (dsimp only [cmpP, cmpN] at ht) <;> (try (exfalso; omega))) | refine Z0 ?_ | refine Zq ?_ | refine Zr ?_ | refine Zk ?_ | refine Zy ?_ | refine Zn ?_ | refine Zj ?_ | refine Ze ?_ | refine Zx ?_ | refine Zqr ?_ | refine Zqs ?_ | refine Zqc ?_ | refine Zqx ?_ | refine Zqf ?_ | refine Zm tb fun b => ?_ | refine Zb fun b => ?_ | refine Zs tb ?_ | refine Zu tb ?_))
        refine WL_cons rfl (Hv_call tb  rfl rfl rfl (by rw [List.append_nil]) (fun w hs => stepM_t true bw 0 (l.length + 4) x' y' none s' 4 0 0 0 [] w hx' hy' hs0' (by omega) (fun k hk => by cases hk) (by decide) slNil) rfl ?_)
        rintro v Γ' ⟨rfl, x'', y'', s'', hx'', hy'', hs0'', rfl⟩
        (repeat' (first | refine Zv tb ?_ | (refine Zt (fun ht => ?_) (fun ht => ?_) <;> (dsimp only [cmpP, cmpN] at ht) <;> (try (exfalso; omega))) | refine Z0 ?_ | refine Zq ?_ | refine Zr ?_ | refine Zk ?_ | refine Zy ?_ | refine Zn ?_ | refine Zj ?_ | refine Ze ?_ | refine Zx ?_ | refine Zqr ?_ | refine Zqs ?_ | refine Zqc ?_ | refine Zqx ?_ | refine Zqf ?_ | refine Zm tb fun b => ?_ | refine Zb fun b => ?_ | refine Zs tb ?_ | refine Zu tb ?_))
        refine WL_cons rfl (Hv_call tb  rfl rfl rfl (by rw [List.append_nil]) (fun w hs => stepM_t true bw 0 (l.length + 5) x'' y'' none s'' 5 0 0 1 [] w hx'' hy'' hs0'' (by omega) (fun k hk => by cases hk) (by decide) slNil) rfl ?_)
        rintro v Γ' ⟨rfl, x''', y''', s''', hx''', hy''', hs0''', rfl⟩
        (repeat' (first | refine Zv tb ?_ | (refine Zt (fun ht => ?_) (fun ht => ?_) <;> (dsimp only [cmpP, cmpN] at ht) <;> (try (exfalso; omega))) | refine Z0 ?_ | refine Zq ?_ | refine Zr ?_ | refine Zk ?_ | refine Zy ?_ | refine Zn ?_ | refine Zj ?_ | refine Ze ?_ | refine Zx ?_ | refine Zqr ?_ | refine Zqs ?_ | refine Zqc ?_ | refine Zqx ?_ | refine Zqf ?_ | refine Zm tb fun b => ?_ | refine Zb fun b => ?_ | refine Zs tb ?_ | refine Zu tb ?_))
        exact ⟨(2, x''', y''', s'''), ⟨by dsimp only; omega, hx''', hy''', hs0'''⟩, by dsimp only; omega, (by repeat (first | exact Sub.nil | refine Sub.cons rfl ?_)), [], List.Perm.refl _⟩
    · obtain rfl : k = 2 := by omega
      (repeat' (first | refine Zv tb ?_ | (refine Zt (fun ht => ?_) (fun ht => ?_) <;> (dsimp only [cmpP, cmpN] at ht) <;> (try (exfalso; omega))) | refine Z0 ?_ | refine Zq ?_ | refine Zr ?_ | refine Zk ?_ | refine Zy ?_ | refine Zn ?_ | refine Zj ?_ | refine Ze ?_ | refine Zx ?_ | refine Zqr ?_ | refine Zqs ?_ | refine Zqc ?_ | refine Zqx ?_ | refine Zqf ?_ | refine Zm tb fun b => ?_ | refine Zb fun b => ?_ | refine Zs tb ?_ | refine Zu tb ?_))
      exact ⟨(x, y, s), hs0, (by repeat (first | exact Sub.nil | refine Sub.cons rfl ?_)), keepAll _⟩
  rintro ⟨x2, y2, s2⟩ hs2
  dsimp only at hs2 ⊢
  (repeat' (first | refine Zv tb ?_ | (refine Zt (fun ht => ?_) (fun ht => ?_) <;> (dsimp only [cmpP, cmpN] at ht) <;> (try (exfalso; omega))) | refine Z0 ?_ | refine Zq ?_ | refine Zr ?_ | refine Zk ?_ | refine Zy ?_ | refine Zn ?_ | refine Zj ?_ | refine Ze ?_ | refine Zx ?_ | refine Zqr ?_ | refine Zqs ?_ | refine Zqc ?_ | refine Zqx ?_ | refine Zqf ?_ | refine Zm tb fun b => ?_ | refine Zb fun b => ?_ | refine Zs tb ?_ | refine Zu tb ?_))
  refine WL_cons rfl (Hv_call tb  rfl rfl rfl (perm_m3 (a := wdM bw x2 y2 s2) (P := x2.items) (Q := y2.items) (S := s2.items)) (fun w hs => wends_t bw (l.length + 6) (ptV x2.bb) (ptV y2.bb) (ptV x2.rb) (ptV y2.rb) s2 w hs2 (by omega)) rfl ?_)
  rintro v Γ' ⟨rfl, rfl⟩
  (repeat' (first | refine Zv tb ?_ | (refine Zt (fun ht => ?_) (fun ht => ?_) <;> (dsimp only [cmpP, cmpN] at ht) <;> (try (exfalso; omega))) | refine Z0 ?_ | refine Zq ?_ | refine Zr ?_ | refine Zk ?_ | refine Zy ?_ | refine Zn ?_ | refine Zj ?_ | refine Ze ?_ | refine Zx ?_ | refine Zqr ?_ | refine Zqs ?_ | refine Zqc ?_ | refine Zqx ?_ | refine Zqf ?_ | refine Zm tb fun b => ?_ | refine Zb fun b => ?_ | refine Zs tb ?_ | refine Zu tb ?_))
  exact ⟨_, [], .tmp rfl .nil, ⟨rfl, rfl⟩, _, List.Perm.refl _⟩
end Go.Proofs.Ytdnngagahhleiaa
