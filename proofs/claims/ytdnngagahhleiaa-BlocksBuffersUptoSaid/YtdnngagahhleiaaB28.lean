/- what a World holds behind each step. -/
import Derived.Test.YtdnngagahhleiaaB27
namespace Go.Proofs.Ytdnngagahhleiaa
open Go.Sx
set_option maxRecDepth 10000
set_option linter.unusedVariables false
set_option linter.unusedSimpArgs false
def wnt (Z : Nat → List Int) (m : Nat) : List Value := (List.range m).map fun j => .string (strOfNums (Z (j / 2)))
abbrev spI (V : Option Addr) (n c : Nat) (L : List Sp) : It := .row (.slice V n c) 61 2 n (spC.cells L)
structure Sst where
  RV : Option Addr
  WV : Option Addr
  SV : Option Addr
  AV : Option Addr
  rc : Nat
  wc : Nat
  sc : Nat
  ac : Nat
  p1 : Nat
  p2 : Nat
  A1 : Nat → Option Nat
  A2 : Nat → Option Nat
  A3 : Nat → Option Nat
  c1 : Nat → Nat
  c2 : Nat → Nat
  c3 : Nat → Nat
  Z : Nat → List Int
  Y : Nat → List Sp
def Sst.hR (s : Sst) : List Value := hdq s.A1 (fun j => (s.Z (j / 2)).length) s.c1 (2 * s.p1)
def Sst.hW (s : Sst) : List Value := wnt s.Z (2 * s.p1)
def Sst.hS (s : Sst) : List Value := hdq s.A2 (fun j => (s.Y (j / 2)).length) s.c2 (2 * s.p2)
def Sst.hA (s : Sst) : List Value := hdq (fun j => s.A3 (j / 2)) (fun j => (s.Y (j / 2)).length) (fun j => s.c3 (j / 2)) (2 * s.p2)
abbrev Sst.rowR (s : Sst) : It := .row (.slice s.RV (2 * s.p1) s.rc) 26 1 (2 * s.p1) s.hR
abbrev Sst.rowW (s : Sst) : It := .row (.slice s.WV (2 * s.p1) s.wc) 9 1 (2 * s.p1) s.hW
abbrev Sst.rowS (s : Sst) : It := .row (.slice s.SV (2 * s.p2) s.sc) 43 1 (2 * s.p2) s.hS
abbrev Sst.rowA (s : Sst) : It := .row (.slice s.AV (2 * s.p2) s.ac) 43 1 (2 * s.p2) s.hA
def Sst.FR (s : Sst) : List It := fam (2 * s.p1) fun j => byI (adr (s.A1 j)) (s.Z (j / 2)).length (s.c1 j) (s.Z (j / 2))
def Sst.FS (s : Sst) : List It := fam (2 * s.p2) fun j => spI (adr (s.A2 j)) (s.Y (j / 2)).length (s.c2 j) (s.Y (j / 2))
def Sst.FA (s : Sst) : List It := fam s.p2 fun i => spI (adr (s.A3 i)) (s.Y i).length (s.c3 i) (s.Y i)
def Sst.T (s : Sst) : List It := s.FR ++ (s.FS ++ s.FA)
structure Sst.Ok (s : Sst) (N : Nat) : Prop where
  p1 : s.p1 ≤ N
  p2 : s.p2 ≤ N
  z : ∀ i, i < s.p1 → (s.Z i).length ≤ 65536
  y : ∀ i, i < s.p2 → (s.Y i).length ≤ 2000
theorem Sst.Ok.mono {s : Sst} {N : Nat} (h : s.Ok N) : s.Ok (N + 1) := ⟨Nat.le_succ_of_le h.p1, Nat.le_succ_of_le h.p2, h.z, h.y⟩
/-- rows that came out of Read. -/
def Sst.addR (s : Sst) (RV' WV' : Option Addr) (rc' wc' : Nat) (a b : Option Nat) (ca cb : Nat) (z : List Int) : Sst :=
  { s with RV := RV', WV := WV', rc := rc', wc := wc', p1 := s.p1 + 1, A1 := upd (upd s.A1 (2 * s.p1) a) (2 * s.p1 + 1) b, c1 := upd (upd s.c1 (2 * s.p1) ca) (2 * s.p1 + 1) cb, Z := upd s.Z s.p1 z }
/-- sets that came out of Have. -/
def Sst.addS (s : Sst) (SV' AV' : Option Addr) (sc' ac' : Nat) (a b d : Option Nat) (ca cb cd : Nat) (y : List Sp) : Sst :=
  { s with SV := SV', AV := AV', sc := sc', ac := ac', p2 := s.p2 + 1, A2 := upd (upd s.A2 (2 * s.p2) a) (2 * s.p2 + 1) b, c2 := upd (upd s.c2 (2 * s.p2) ca) (2 * s.p2 + 1) cb, A3 := upd s.A3 s.p2 d, c3 := upd s.c3 s.p2 cd, Y := upd s.Y s.p2 y }
theorem hdq_add2 (A : Nat → Option Nat) (n c : Nat → Nat) (m : Nat) : hdq A n c (m + 2) = hdq A n c m ++ [.slice (adr (A m)) (n m) (c m), .slice (adr (A (m + 1))) (n (m + 1)) (c (m + 1))] := by simp [hdq, List.range_succ]
theorem hdq_ext {A A' : Nat → Option Nat} {n n' c c' : Nat → Nat} {m : Nat} (h : ∀ j, j < m → A j = A' j ∧ n j = n' j ∧ c j = c' j) : hdq A n c m = hdq A' n' c' m := by
  simp only [hdq]
  refine List.map_congr_left fun j hj => ?_
  obtain ⟨h1, h2, h3⟩ := h j (by simpa using hj)
  rw [h1, h2, h3]
theorem fam_add2 (m : Nat) (f : Nat → It) : fam (m + 2) f = fam m f ++ [f m, f (m + 1)] := by simp [fam, List.range_succ]
section
variable (s : Sst) (V1 V2 : Option Addr) (k1 k2 : Nat) (a b d : Option Nat) (ca cb cd : Nat) (z : List Int) (y : List Sp)
theorem addR_hR : (s.addR V1 V2 k1 k2 a b ca cb z).hR = s.hR ++ [.slice (adr a) z.length ca, .slice (adr b) z.length cb] := by
  show hdq (upd (upd s.A1 (2 * s.p1) a) (2 * s.p1 + 1) b) (fun j => (upd s.Z s.p1 z (j / 2)).length) (upd (upd s.c1 (2 * s.p1) ca) (2 * s.p1 + 1) cb) (2 * s.p1 + 2) = _
  rw [hdq_add2]
  have e1 : 2 * s.p1 / 2 = s.p1 := by omega
  have e2 : (2 * s.p1 + 1) / 2 = s.p1 := by omega
  congr 1
  · refine hdq_ext fun j hj => ⟨?_, ?_, ?_⟩
    · rw [upd_other _ _ (by omega), upd_other _ _ (by omega)]
    · rw [upd_other _ _ (by omega)]
    · rw [upd_other _ _ (by omega), upd_other _ _ (by omega)]
  · rw [e1, e2, upd_same, upd_same, upd_same, upd_other _ _ (by omega), upd_same, upd_other _ _ (by omega), upd_same]
theorem addR_hW : (s.addR V1 V2 k1 k2 a b ca cb z).hW = s.hW ++ [.string (strOfNums z), .string (strOfNums z)] := by
  show wnt (upd s.Z s.p1 z) (2 * s.p1 + 2) = _
  have e1 : 2 * s.p1 / 2 = s.p1 := by omega
  have e2 : (2 * s.p1 + 1) / 2 = s.p1 := by omega
  unfold wnt Sst.hW wnt
  rw [List.range_succ, List.range_succ]
  simp only [List.map_append, List.map_cons, List.map_nil, e1, e2, upd_same, List.append_assoc, List.cons_append, List.nil_append]
  congr 1
  refine List.map_congr_left fun j hj => ?_
  have : j < 2 * s.p1 := by simpa using hj
  rw [upd_other _ _ (by omega)]
theorem addR_FR : (s.addR V1 V2 k1 k2 a b ca cb z).FR = s.FR ++ [byI (adr a) z.length ca z, byI (adr b) z.length cb z] := by
  show fam (2 * s.p1 + 2) (fun j => byI (adr (upd (upd s.A1 (2 * s.p1) a) (2 * s.p1 + 1) b j)) (upd s.Z s.p1 z (j / 2)).length (upd (upd s.c1 (2 * s.p1) ca) (2 * s.p1 + 1) cb j) (upd s.Z s.p1 z (j / 2))) = _
  rw [fam_add2]
  have e1 : 2 * s.p1 / 2 = s.p1 := by omega
  have e2 : (2 * s.p1 + 1) / 2 = s.p1 := by omega
  congr 1
  · refine fam_ext fun j hj => ?_
    rw [upd_other _ _ (by omega), upd_other _ _ (by omega), upd_other _ _ (by omega), upd_other _ _ (by omega), upd_other _ _ (by omega)]
  · rw [e1, e2, upd_same, upd_same, upd_same, upd_other _ _ (by omega), upd_same, upd_other _ _ (by omega), upd_same]
theorem addR_ok {N : Nat} (h : s.Ok N) (hz : z.length ≤ 65536) : (s.addR V1 V2 k1 k2 a b ca cb z).Ok (N + 1) := by
  refine ⟨Nat.succ_le_succ h.p1, Nat.le_succ_of_le h.p2, fun i hi => ?_, h.y⟩
  show (upd s.Z s.p1 z i).length ≤ _
  by_cases hi' : i = s.p1
  · subst hi'; rw [upd_same]; exact hz
  · rw [upd_other _ _ hi']
    exact h.z i (by have : i < s.p1 + 1 := hi; omega)
theorem addS_hS : (s.addS V1 V2 k1 k2 a b d ca cb cd y).hS = s.hS ++ [.slice (adr a) y.length ca, .slice (adr b) y.length cb] := by
  show hdq (upd (upd s.A2 (2 * s.p2) a) (2 * s.p2 + 1) b) (fun j => (upd s.Y s.p2 y (j / 2)).length) (upd (upd s.c2 (2 * s.p2) ca) (2 * s.p2 + 1) cb) (2 * s.p2 + 2) = _
  rw [hdq_add2]
  have e1 : 2 * s.p2 / 2 = s.p2 := by omega
  have e2 : (2 * s.p2 + 1) / 2 = s.p2 := by omega
  congr 1
  · refine hdq_ext fun j hj => ⟨?_, ?_, ?_⟩
    · rw [upd_other _ _ (by omega), upd_other _ _ (by omega)]
    · rw [upd_other _ _ (by omega)]
    · rw [upd_other _ _ (by omega), upd_other _ _ (by omega)]
  · rw [e1, e2, upd_same, upd_same, upd_same, upd_other _ _ (by omega), upd_same, upd_other _ _ (by omega), upd_same]
theorem addS_hA : (s.addS V1 V2 k1 k2 a b d ca cb cd y).hA = s.hA ++ [.slice (adr d) y.length cd, .slice (adr d) y.length cd] := by
  show hdq (fun j => upd s.A3 s.p2 d (j / 2)) (fun j => (upd s.Y s.p2 y (j / 2)).length) (fun j => upd s.c3 s.p2 cd (j / 2)) (2 * s.p2 + 2) = _
  rw [hdq_add2]
  have e1 : 2 * s.p2 / 2 = s.p2 := by omega
  have e2 : (2 * s.p2 + 1) / 2 = s.p2 := by omega
  congr 1
  · refine hdq_ext fun j hj => ⟨?_, ?_, ?_⟩ <;> rw [upd_other _ _ (by omega)]
  · rw [e1, e2, upd_same, upd_same, upd_same]
theorem addS_FS : (s.addS V1 V2 k1 k2 a b d ca cb cd y).FS = s.FS ++ [spI (adr a) y.length ca y, spI (adr b) y.length cb y] := by
  show fam (2 * s.p2 + 2) (fun j => spI (adr (upd (upd s.A2 (2 * s.p2) a) (2 * s.p2 + 1) b j)) (upd s.Y s.p2 y (j / 2)).length (upd (upd s.c2 (2 * s.p2) ca) (2 * s.p2 + 1) cb j) (upd s.Y s.p2 y (j / 2))) = _
  rw [fam_add2]
  have e1 : 2 * s.p2 / 2 = s.p2 := by omega
  have e2 : (2 * s.p2 + 1) / 2 = s.p2 := by omega
  congr 1
  · refine fam_ext fun j hj => ?_
    rw [upd_other _ _ (by omega), upd_other _ _ (by omega), upd_other _ _ (by omega), upd_other _ _ (by omega), upd_other _ _ (by omega)]
  · rw [e1, e2, upd_same, upd_same, upd_same, upd_other _ _ (by omega), upd_same, upd_other _ _ (by omega), upd_same]
theorem addS_FA : (s.addS V1 V2 k1 k2 a b d ca cb cd y).FA = s.FA ++ [spI (adr d) y.length cd y] := by
  show fam (s.p2 + 1) (fun i => spI (adr (upd s.A3 s.p2 d i)) (upd s.Y s.p2 y i).length (upd s.c3 s.p2 cd i) (upd s.Y s.p2 y i)) = _
  rw [fam_succ]
  congr 1
  · refine fam_ext fun j hj => ?_
    rw [upd_other _ _ (by omega), upd_other _ _ (by omega), upd_other _ _ (by omega)]
  · rw [upd_same, upd_same, upd_same]
theorem addS_ok {N : Nat} (h : s.Ok N) (hy : y.length ≤ 2000) : (s.addS V1 V2 k1 k2 a b d ca cb cd y).Ok (N + 1) := by
  refine ⟨Nat.le_succ_of_le h.p1, Nat.succ_le_succ h.p2, h.z, fun i hi => ?_⟩
  show (upd s.Y s.p2 y i).length ≤ _
  by_cases hi' : i = s.p2
  · subst hi'; rw [upd_same]; exact hy
  · rw [upd_other _ _ hi']
    exact h.y i (by have : i < s.p2 + 1 := hi; omega)
end
def stI (bw : Nat) (two : Bool) (bb : Nat) (B : Bf) (V : Option Addr) (c : Nat) (U : Option Addr) (cu : Nat) (rb : Nat) (R : Rf) (V' : Option Addr) (c' : Nat) (po qo : Value) (s : Sst) : List It :=
  wdI bw two (ptV bb) (ptV rb) po qo (.slice s.RV (2 * s.p1) s.rc) (.slice s.WV (2 * s.p1) s.wc) (.slice s.SV (2 * s.p2) s.sc) (.slice s.AV (2 * s.p2) s.ac) :: (bufI bb B V c U cu ++ (refI rb R V' c' ++ (s.rowR :: s.rowW :: s.rowS :: s.rowA :: s.T)))
def StP (bw : Nat) (two : Bool) (po qo : Value) (N : Nat) (v : Value) (Γ : List It) : Prop :=
  v = .bool true ∧ ∃ bb B V c U cu rb R V' c' s, Rel B R ∧ Sst.Ok s (N + 1) ∧ Γ = stI bw two bb B V c U cu rb R V' c' po qo s
abbrev opV (kind : Int) (two : Bool) (at' : Int) (D : Option Addr) (n dc : Nat) (s : Sp) : Value := .agg #[.int .i64 kind, .bool two, .int .i64 at', .slice D n dc, .int .i64 s.1, .int .i64 s.2]
theorem Rel.pl_le {B : Bf} {R : Rf} (h : Rel B R) : R.pl.length ≤ 65536 := by
  rw [h.len]
  obtain ⟨h1, h2, _⟩ := lastT_mem h.wb.right
  by_cases h0 : 0 < lastT B.came
  · have := h.wb.lt _ (h2 h0); omega
  · omega
theorem put_look (B : Bf) (at' : Int) (data : List Int) : (putF B at' data).2 = (lookF B at' data).2 := by
  unfold putF
  split
  · rename_i h
    unfold lookF at h ⊢
    split
    · rfl
    split
    · rfl
    split
    · rfl
    · rename_i h1 h2 h3
      rw [if_neg h1, if_neg h2, if_neg h3] at h
      exact absurd rfl h
  · rename_i h
    have : (lookF B at' data).2.2.2 = 0 := by simpa using h
    rw [← this]
theorem Rel.put {B : Bf} {R : Rf} {at' : Int} {data : List Int} (h : Rel B R) (hd : ∀ k, k < data.length → 0 ≤ bz data k ∧ bz data k ≤ 255) : (putF B at' data).2 = (withF R at' data).2 ∧ Rel (putF B at' data).1 (if (withF R at' data).2.2.2 = 0 then ⟨(withF R at' data).1, R.dr⟩ else R) := by
  obtain ⟨h1, h2⟩ := with_look (at' := at') (data := data) h hd
  refine ⟨by rw [put_look, h1], ?_⟩
  have e : (withF R at' data).2.2.2 = (lookF B at' data).2.2.2 := by rw [h1]
  rw [e]
  split
  · rename_i h3; exact h2 h3
  · rename_i h3
    have : (putF B at' data).1 = B := by unfold putF; rw [if_pos h3]
    rw [this]; exact h
theorem Rel.heldEq {B : Bf} {R : Rf} (h : Rel B R) : (if R.dr = true then 0 else cntP R.pl R.pl.length) = heldF B := by
  unfold heldF cntP size
  rw [h.dr, h.held, if_pos h.wb.right]
end Go.Proofs.Ytdnngagahhleiaa
