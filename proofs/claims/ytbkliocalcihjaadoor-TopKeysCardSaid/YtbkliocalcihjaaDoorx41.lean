/- A part of the proof. -/
import Derived.Test.YtbkliocalcihjaaDoorx35
import Derived.Test.YtbkliocalcihjaaDoorx36
import Derived.Test.YtbkliocalcihjaaDoorx40
set_option linter.all false
set_option maxRecDepth 100000
namespace Go.Lf
open Go
noncomputable section
theorem jG {u : Option LV} {a b c : Int} (h : u = some (.d (.tup [.agg [.int a, .int b], .int c]))) : opq (α := BJ × Int) u = some (⟨a, b⟩, c) := by
 obtain ⟨y, h1, h2⟩ := Rb (α := BJ × Int) (x := (⟨a, b⟩, c)) h
 obtain ⟨⟨d, e⟩, f⟩ := y
 have h3 : DV.tup [.agg [.int d, .int e], .int f] = DV.tup [.agg [.int a, .int b], .int c] := h2
 simp only [DV.tup.injEq, List.cons.injEq, DV.agg.injEq, DV.int.injEq, and_true] at h3
 obtain ⟨⟨rfl, rfl⟩, rfl⟩ := h3
 exact h1
def zZ : BK := ⟨⟨[⟨20, 22⟩, ⟨0, 0⟩], rfl⟩, ⟨[⟨1, 1⟩, ⟨1, 1⟩], rfl⟩, .cold [⟨6, ⟨2, 4⟩, ⟨[1, 0], rfl⟩⟩, ⟨6, ⟨3, 5⟩, ⟨[1, 0], rfl⟩⟩], .nil, .cold [⟨1, 0, 16, 1⟩]⟩
theorem pR : ∃ r, MG 20 (Sl.cold [2, 3]) (Sl.cold [⟨1, 0, 16, 1⟩]) = some r ∧ Enc.enc r = sC := Rb (x := zZ) qx
def xE : OrganBook := ⟨3, .cold [⟨0, 1, -3, 1⟩, ⟨1, 2, -4, 1⟩], .cold [⟨0, 21, 1⟩, ⟨2, 16, 1⟩], ⟨.cold [⟨⟨6, 6⟩, ⟨14, 15⟩, ⟨1, 1⟩, ⟨6, 6⟩, 0, ⟨9, 9⟩⟩, ⟨⟨8, 9⟩, ⟨20, 20⟩, ⟨0, 0⟩, ⟨0, 0⟩, 0, ⟨7, 9⟩⟩], 3, .nil⟩⟩
theorem iu {r : BK} (hr : Enc.enc r = sC) : ∃ p, E4 r = some p ∧ Enc.enc p = Rf := by
 unfold E4
 rw [hr]
 exact Rb (x := xE) lR
theorem mI {r : BK} (hr : Enc.enc r = sC) : HM r 0 0 = some (⟨18, 20⟩, 0) := by
 unfold HM
 rw [hr]
 exact jG ot
theorem mN {r : BK} (hr : Enc.enc r = sC) : G1 r 1 = some (⟨3, 5⟩, 0) := by
 unfold G1
 rw [hr]
 exact jG pU
theorem iL {p : OrganBook} (hp : Enc.enc p = Rf) : G5 p 1 = some (⟨18, 20⟩, 0) := by
 unfold G5
 rw [hp]
 exact jG lT
theorem gp {p : OrganBook} (hp : Enc.enc p = Rf) : G7 p 1 2 = some (⟨-5, -3⟩, 0) := by
 unfold G7
 rw [hp]
 exact jG lI
def kU : Sl AC := Sl.cold [(AC.mk 0 (Ac 8 12)), (AC.mk 1 (Ac 9 16))]
theorem mf : Wz Bq := ⟨by show (2 : Nat) < _; omega, by show (0 : Nat) < _; omega⟩
theorem rI : vOk Bq = true := by decide +kernel
theorem mD : FZ Bq = true := by decide +kernel
theorem xr : ∃ K : Sl Int, Bw (AG Bq 1) 1 kU = some (K, 0) ∧ K.l = [-1, 0, 1, 2] := by
 obtain ⟨K, h1, h2⟩ := cc mf rI (s := 1) (by omega) (by omega) (week := 1) ⟨by omega, by show (1 : Int) < 3; omega⟩ (ps := kU) (by
  intro p hp
  have hp' : p ∈ [(AC.mk 0 (Ac 8 12)), (AC.mk 1 (Ac 9 16))] := hp
  simp only [List.mem_cons, List.not_mem_nil, or_false] at hp'
  rcases hp' with rfl | rfl
  ·exact ⟨⟨by show (0 : Int) ≤ 0; omega, by show (0 : Int) < ((2 : Nat) : Int); omega⟩, by show (0 : Int) ≤ 8; omega, by show (8 : Int) ≤ 12; omega, by show (12 : Int) ≤ 40; omega⟩
  ·exact ⟨⟨by show (0 : Int) ≤ 1; omega, by show (1 : Int) < ((2 : Nat) : Int); omega⟩, by show (0 : Int) ≤ 9; omega, by show (9 : Int) ≤ 16; omega, by show (16 : Int) ≤ 40; omega⟩) ⟨by show 1 ≤ 2; omega, by show 2 ≤ 4; omega⟩ mD
 have h3 : iZ Bq 1 1 kU.l = [-1, 0, 1, 2] := by decide +kernel
 exact ⟨K, h1, h2.trans h3⟩
theorem rC {K : Sl Int} (h : K.l = [-1, 0, 1, 2]) : E8 K (Sl.cold [-1, 0, 1, 2]) = some true := by
 cases K with
 | nil => cases h
 | cold xs => cases h; exact (Gi _ _).of _ (by kernel_rfl)
 | hot xs => cases h; exact (Gi _ _).of _ (by kernel_rfl)
 | full xs => cases h; exact (Gi _ _).of _ (by kernel_rfl)
def ol : BenchBook := ⟨Bq, .hot [⟨1, .cold [⟨⟨9, 13⟩, 1⟩]⟩, ⟨1, .cold [⟨⟨10, 17⟩, 1⟩]⟩], 1⟩
theorem nD : Df Bq 1 kU 1 = some ol := (QD _ _ _ _).of _ (by kernel_rfl)
theorem zW : FY ol 1 0 = some (.full [1], 0) := (VZ _ _ _).of _ (by kernel_rfl)
theorem vv : E8 (.full [1]) (Sl.cold [1]) = some true := (Gi _ _).of _ (by kernel_rfl)
theorem lX : CX = some true := by
 obtain ⟨K, hK, hKl⟩ := xr
 obtain ⟨r, hr, hre⟩ := pR
 obtain ⟨p, hp, hpe⟩ := iu hre
 have hK' : Bw (AG Bq 1) 1 (Sl.cold [(AC.mk 0 (Ac 8 12)), (AC.mk 1 (Ac 9 16))]) = some (K, 0) := hK
 have hb' : Df Bq 1 (Sl.cold [(AC.mk 0 (Ac 8 12)), (AC.mk 1 (Ac 9 16))]) 1 = some ol := nD
 unfold CX
 simp only [hK', hb', zW, hr, mI hre, hp, iL hpe, mN hre, gp hpe, Ax, decide_true, if_true, rC hKl, vv]
 rfl
theorem iC {v : VoiceBook} (hf : Wz v) (l : Sl AC) (n : Ar 3 Int) : Iq v l n = some true := kf hf lX l n
end
end Go.Lf
