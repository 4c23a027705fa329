/- A part of the proof. -/
import Derived.Test.YtdjddljglkeefaaDoorx34
import Derived.Test.YtdjddljglkeefaaDoorx35
set_option linter.all false
namespace Go.Lf
open Go Go.Lf.Pl
set_option maxRecDepth 100000
theorem WG : Tf B1 := ⟨⟨by decide +kernel, by decide +kernel⟩, by decide +kernel, by decide +kernel⟩
theorem mO : Tf Ha := ⟨⟨by decide +kernel, by decide +kernel⟩, by decide +kernel, by decide +kernel⟩
theorem lL : Tf Fz := ⟨⟨by decide +kernel, by decide +kernel⟩, by decide +kernel, by decide +kernel⟩
theorem o1 : Ai B1 (og B1 0 1) = 0 := by decide +kernel
theorem o2 : A2 B1 AW 0 1 = [0, 1] := by decide +kernel
theorem o3 : Ai Fz (Ap Fz 0) = 0 := by decide +kernel
theorem o4 : ej Fz 0 = (0, 0) := by decide +kernel
theorem o5 : Ai B1 (rh B1 (Sl.cold [0, 2] : Sl Int).l) = 0 := by decide +kernel
theorem o6 : uf B1 (Sl.cold [0, 2] : Sl Int).l GV.l = true := by decide +kernel
theorem o7 : Ai Ha true = 0 := by decide +kernel
theorem o8 : (W0 Ha).length = 1 := by decide +kernel
theorem o9 : Ai B1 true = 0 := by decide +kernel
theorem o10 : A5 B1 AW = [1] := by decide +kernel
theorem o11 : LR B1 AW = GV.l := by decide +kernel
theorem ze : W0 Ha = [[BG 0 0 0, BG 0 1 1, BG 1 0 1, BG 2 0 1]] := by decide +kernel
theorem o13 : Ai Fz true = 0 := by decide +kernel
theorem o14 : sN Fz = [1] := by decide +kernel
theorem zN : Ai B1 (Ap B1 0) = 0 := by decide +kernel
theorem o16 : ej B1 0 = (0, 4) := by decide +kernel
theorem BB : Aq = some true := by
 obtain ⟨c1, c2, c3⟩ := Nq WG 0 1
 rw [o1] at c2 c3
 rw [if_pos rfl, o2] at c3
 obtain ⟨d1, d2, d3⟩ := FO WG
 rw [o9] at d2 d3
 rw [if_pos rfl, o10] at d3
 obtain ⟨s1, s2, s3⟩ := KP WG
 rw [o9] at s2 s3
 rw [if_pos rfl, o11] at s3
 obtain ⟨f1, f2, f3⟩ := Md mO
 rw [o7, if_pos rfl] at f2 f3
 rw [ze] at f2 f3
 obtain ⟨n1, n2, n3⟩ := cm lL
 rw [o13] at n2 n3
 rw [if_pos rfl, o14] at n3
 have h1 := MM lL 0
 rw [o3, if_pos rfl, o4] at h1
 have h2 := OR WG (Sl.cold [0, 2] : Sl Int) (by decide) GV
 rw [o5, if_pos rfl, o6] at h2
 have h3 := MN mO
 rw [o7, if_pos rfl, o8] at h3
 have h4 := MM WG 0
 rw [zN, if_pos rfl, o16] at h4
 have e1 : CL c1 (Sl.cold [0, 1] : Sl Int) = some true := by rw [Va _ _ (by rw [c3]; decide), c3]; rfl
 have e2 : CL d1 (Sl.cold [1] : Sl Int) = some true := by rw [Va _ _ (by rw [d3]; decide), d3]; rfl
 have e3 : CL n1 (Sl.cold [1] : Sl Int) = some true := by rw [Va _ _ (by rw [n3]; decide), n3]; rfl
 have e4 : Eu s1 GV = some true := kE _ _ (by rw [s3]; decide) s3
 have e5 : Eu f1 (Sl.cold [(BG 0 0 0), (BG 0 1 1), (BG 1 0 1), (BG 2 0 1)] : Sl AB) = some true := kE _ _ (by rw [f3]; decide) f3
 simp only [Aq, c2, h1, h2, h3, d2, s2, f2, n2, h4, e1, e2, e3, e4, e5, Option.bind_some, decide_true, if_true, Bool.not_true, Bool.false_eq_true, if_false]
 rfl
end Go.Lf
namespace Go.Lf
open Go Go.Lf.Pl
set_option maxRecDepth 100000
end Go.Lf
