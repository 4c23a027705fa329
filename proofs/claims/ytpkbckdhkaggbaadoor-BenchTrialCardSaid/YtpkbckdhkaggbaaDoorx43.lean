/- A part of the proof. -/
import Derived.Test.YtpkbckdhkaggbaaDoorx41
import Derived.Test.YtpkbckdhkaggbaaDoorx42
set_option linter.all false
namespace Go.Lf
open Go Go.Lf.Pl
set_option maxRecDepth 100000
theorem UK : TG Bn := ⟨⟨by decide +kernel, by decide +kernel⟩, by decide +kernel, by decide +kernel⟩
theorem iT : TG Gm := ⟨⟨by decide +kernel, by decide +kernel⟩, by decide +kernel, by decide +kernel⟩
theorem gX : TG Ek := ⟨⟨by decide +kernel, by decide +kernel⟩, by decide +kernel, by decide +kernel⟩
theorem o1 : AZ Bn (jw Bn 0 1) = 0 := by decide +kernel
theorem o2 : BK Bn A0 0 1 = [0, 1] := by decide +kernel
theorem o3 : AZ Ek (An Ek 0) = 0 := by decide +kernel
theorem o4 : nt Ek 0 = (0, 0) := by decide +kernel
theorem o5 : AZ Bn (oR Bn (Sl.cold [0, 2] : Sl Int).l) = 0 := by decide +kernel
theorem o6 : sn Bn (Sl.cold [0, 2] : Sl Int).l FT.l = true := by decide +kernel
theorem o7 : AZ Gm true = 0 := by decide +kernel
theorem o8 : (nC Gm).length = 1 := by decide +kernel
theorem o9 : AZ Bn true = 0 := by decide +kernel
theorem uo : BL Bn A0 = [1] := by decide +kernel
theorem uv : NP Bn A0 = FT.l := by decide +kernel
theorem uW : nC Gm = [[Bq 0 0 0, Bq 0 1 1, Bq 1 0 1, Bq 2 0 1]] := by decide +kernel
theorem uJ : AZ Ek true = 0 := by decide +kernel
theorem uC : i8 Ek = [1] := by decide +kernel
theorem uk : AZ Bn (An Bn 0) = 0 := by decide +kernel
theorem uc : nt Bn 0 = (0, 4) := by decide +kernel
theorem CW : BI = some true := by
 obtain ⟨c1, c2, c3⟩ := Io UK 0 1
 rw [o1] at c2 c3
 rw [if_pos rfl, o2] at c3
 obtain ⟨d1, d2, d3⟩ := Ie UK
 rw [o9] at d2 d3
 rw [if_pos rfl, uo] at d3
 obtain ⟨s1, s2, s3⟩ := Nh UK
 rw [o9] at s2 s3
 rw [if_pos rfl, uv] at s3
 obtain ⟨f1, f2, f3⟩ := ZV iT
 rw [o7, if_pos rfl] at f2 f3
 rw [uW] at f2 f3
 obtain ⟨n1, n2, n3⟩ := O0 gX
 rw [uJ] at n2 n3
 rw [if_pos rfl, uC] at n3
 have h1 := P8 gX 0
 rw [o3, if_pos rfl, o4] at h1
 have h2 := dQ UK (Sl.cold [0, 2] : Sl Int) (by decide) FT
 rw [o5, if_pos rfl, o6] at h2
 have h3 := Za iT
 rw [o7, if_pos rfl, o8] at h3
 have h4 := P8 UK 0
 rw [uk, if_pos rfl, uc] at h4
 have e1 : Dt c1 (Sl.cold [0, 1] : Sl Int) = some true := by rw [YZ _ _ (by rw [c3]; decide), c3]; rfl
 have e2 : Dt d1 (Sl.cold [1] : Sl Int) = some true := by rw [YZ _ _ (by rw [d3]; decide), d3]; rfl
 have e3 : Dt n1 (Sl.cold [1] : Sl Int) = some true := by rw [YZ _ _ (by rw [n3]; decide), n3]; rfl
 have e4 : Fa s1 FT = some true := lE _ _ (by rw [s3]; decide) s3
 have e5 : Fa f1 (Sl.cold [(Bq 0 0 0), (Bq 0 1 1), (Bq 1 0 1), (Bq 2 0 1)] : Sl AC) = some true := lE _ _ (by rw [f3]; decide) f3
 simp only [BI, c2, h1, h2, h3, d2, s2, f2, n2, h4, e1, e2, e3, e4, e5, Option.bind_some, decide_true, if_true, Bool.not_true, Bool.false_eq_true, if_false]
 rfl
end Go.Lf
namespace Go.Lf
open Go Go.Lf.Pl
set_option maxRecDepth 100000
end Go.Lf
