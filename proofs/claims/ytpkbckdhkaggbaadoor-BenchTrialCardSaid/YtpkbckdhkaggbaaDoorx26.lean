/- A part of the proof. -/
import Derived.Test.YtpkbckdhkaggbaaDoorx3
set_option linter.all false
namespace Go.Lf
open Go
structure Ec where
 Low : Int
 High : Int
 deriving DecidableEq
instance : BZ Ec := { n := 2, cells := fun x => [.int x.Low, .int x.High], enc := fun x => .agg [.int x.Low, .int x.High], law := fun _ => rfl, agg := fun _ => rfl, len := fun _ => rfl, ok := fun _ => rfl, key := fun x => [x.Low, x.High], hkey := fun _ => rfl }
structure AN where
 Low : Ec
 High : Ec
 Gain : Ec
 Turn : Ec
 Loss : Int
 Break : Ec
instance : BZ AN := { n := 11, cells := fun x => [.int x.Low.Low, .int x.Low.High, .int x.High.Low, .int x.High.High, .int x.Gain.Low, .int x.Gain.High, .int x.Turn.Low, .int x.Turn.High, .int x.Loss, .int x.Break.Low, .int x.Break.High], enc := fun x => .agg [.int x.Low.Low, .int x.Low.High, .int x.High.Low, .int x.High.High, .int x.Gain.Low, .int x.Gain.High, .int x.Turn.Low, .int x.Turn.High, .int x.Loss, .int x.Break.Low, .int x.Break.High], law := fun _ => rfl, agg := fun _ => rfl, len := fun _ => rfl, ok := fun _ => rfl, key := fun x => [x.Low.Low, x.Low.High, x.High.Low, x.High.High, x.Gain.Low, x.Gain.High, x.Turn.Low, x.Turn.High, x.Loss, x.Break.Low, x.Break.High], hkey := fun _ => rfl }
structure AE where
 Boy : Int
 Week : Int
 Note : Int
 Sang : Int
 deriving DecidableEq
instance : BZ AE := { n := 4, cells := fun x => [.int x.Boy, .int x.Week, .int x.Note, .int x.Sang], enc := fun x => .agg [.int x.Boy, .int x.Week, .int x.Note, .int x.Sang], law := fun _ => rfl, agg := fun _ => rfl, len := fun _ => rfl, ok := fun _ => rfl, key := fun x => [x.Boy, x.Week, x.Note, x.Sang], hkey := fun _ => rfl }
structure VoiceBook where
 Boys : (Sl AN)
 Weeks : Int
 Trials : (Sl AE)
instance : Qx VoiceBook := { n := 3, cells := fun x => [vG.enc x.Boys, .int x.Weeks, vG.enc x.Trials], enc := fun x => .agg [vG.enc x.Boys, .int x.Weeks, vG.enc x.Trials], law := fun _ => rfl, agg := fun _ => rfl, len := fun _ => rfl, ok := fun x => by simp only [List.map_cons, List.map_nil, List.all_cons, List.all_nil, Na, Nl, NW, JH, Gy, Bool.and_self] }
structure Ao where
 Notes : Ec
 Many : Int
instance : BZ Ao := { n := 3, cells := fun x => [.int x.Notes.Low, .int x.Notes.High, .int x.Many], enc := fun x => .agg [.int x.Notes.Low, .int x.Notes.High, .int x.Many], law := fun _ => rfl, agg := fun _ => rfl, len := fun _ => rfl, ok := fun _ => rfl, key := fun x => [x.Notes.Low, x.Notes.High, x.Many], hkey := fun _ => rfl }
structure AK where
 Week : Int
 Parts : (Sl Ao)
instance : Qx AK := { n := 2, cells := fun x => [.int x.Week, vG.enc x.Parts], enc := fun x => .agg [.int x.Week, vG.enc x.Parts], law := fun _ => rfl, agg := fun _ => rfl, len := fun _ => rfl, ok := fun x => by simp only [List.map_cons, List.map_nil, List.all_cons, List.all_nil, Na, Nl, NW, JH, Gy, Bool.and_self] }
structure BenchBook where
 Voice : VoiceBook
 Pieces : (Sl AK)
 Most : Int
instance : Qx BenchBook := { n := 5, cells := fun x => [vG.enc x.Voice.Boys, .int x.Voice.Weeks, vG.enc x.Voice.Trials, vG.enc x.Pieces, .int x.Most], enc := fun x => .agg [vG.enc x.Voice.Boys, .int x.Voice.Weeks, vG.enc x.Voice.Trials, vG.enc x.Pieces, .int x.Most], law := fun _ => rfl, agg := fun _ => rfl, len := fun _ => rfl, ok := fun x => by simp only [List.map_cons, List.map_nil, List.all_cons, List.all_nil, Na, Nl, NW, JH, Gy, Bool.and_self] }
structure AI where
 piece : Int
 part : Int
 deriving DecidableEq
instance : BZ AI := { n := 2, cells := fun x => [.int x.piece, .int x.part], enc := fun x => .agg [.int x.piece, .int x.part], law := fun _ => rfl, agg := fun _ => rfl, len := fun _ => rfl, ok := fun _ => rfl, key := fun x => [x.piece, x.part], hkey := fun _ => rfl }
structure AB where
 BenchBook : BenchBook
 able : (Mp 2 (Sl Int))
instance : Qx AB := { n := 6, cells := fun x => [vG.enc x.BenchBook.Voice.Boys, .int x.BenchBook.Voice.Weeks, vG.enc x.BenchBook.Voice.Trials, vG.enc x.BenchBook.Pieces, .int x.BenchBook.Most, vG.enc x.able], enc := fun x => .agg [vG.enc x.BenchBook.Voice.Boys, .int x.BenchBook.Voice.Weeks, vG.enc x.BenchBook.Voice.Trials, vG.enc x.BenchBook.Pieces, .int x.BenchBook.Most, vG.enc x.able], law := fun _ => rfl, agg := fun _ => rfl, len := fun _ => rfl, ok := fun x => by simp only [List.map_cons, List.map_nil, List.all_cons, List.all_nil, Na, Nl, NW, JH, Gy, Bool.and_self] }
structure Aa where
 boy : Int
 week : Int
 deriving DecidableEq
instance : BZ Aa := { n := 2, cells := fun x => [.int x.boy, .int x.week], enc := fun x => .agg [.int x.boy, .int x.week], law := fun _ => rfl, agg := fun _ => rfl, len := fun _ => rfl, ok := fun _ => rfl, key := fun x => [x.boy, x.week], hkey := fun _ => rfl }
structure AA where
 VoiceBook : VoiceBook
 truths : (Sl (Sl (Ar 5 Int)))
 whole : (Mp 2 (Sl (Ar 5 Int)))
instance : Qx AA := { n := 5, cells := fun x => [vG.enc x.VoiceBook.Boys, .int x.VoiceBook.Weeks, vG.enc x.VoiceBook.Trials, vG.enc x.truths, vG.enc x.whole], enc := fun x => .agg [vG.enc x.VoiceBook.Boys, .int x.VoiceBook.Weeks, vG.enc x.VoiceBook.Trials, vG.enc x.truths, vG.enc x.whole], law := fun _ => rfl, agg := fun _ => rfl, len := fun _ => rfl, ok := fun x => by simp only [List.map_cons, List.map_nil, List.all_cons, List.all_nil, Na, Nl, NW, JH, Gy, Bool.and_self] }
structure D9 where
 out : Fv
instance : Qx D9 := { n := 1, cells := fun x => [vG.enc x.out], enc := fun x => .agg [vG.enc x.out], law := fun _ => rfl, agg := fun _ => rfl, len := fun _ => rfl, ok := fun x => by simp only [List.map_cons, List.map_nil, List.all_cons, List.all_nil, Na, Nl, NW, JH, Gy, Bool.and_self] }
structure Af where
 so : Int
 of_ : Int
 deriving DecidableEq
instance : BZ Af := { n := 2, cells := fun x => [.int x.so, .int x.of_], enc := fun x => .agg [.int x.so, .int x.of_], law := fun _ => rfl, agg := fun _ => rfl, len := fun _ => rfl, ok := fun _ => rfl, key := fun x => [x.so, x.of_], hkey := fun _ => rfl }
structure AH where
 at_ : AI
 many : Int
 from_ : Int
instance : BZ AH := { n := 4, cells := fun x => [.int x.at_.piece, .int x.at_.part, .int x.many, .int x.from_], enc := fun x => .agg [.int x.at_.piece, .int x.at_.part, .int x.many, .int x.from_], law := fun _ => rfl, agg := fun _ => rfl, len := fun _ => rfl, ok := fun _ => rfl, key := fun x => [x.at_.piece, x.at_.part, x.many, x.from_], hkey := fun _ => rfl }
structure AC where
 Piece : Int
 Part : Int
 Boy : Int
 deriving DecidableEq
instance : BZ AC := { n := 3, cells := fun x => [.int x.Piece, .int x.Part, .int x.Boy], enc := fun x => .agg [.int x.Piece, .int x.Part, .int x.Boy], law := fun _ => rfl, agg := fun _ => rfl, len := fun _ => rfl, ok := fun _ => rfl, key := fun x => [x.Piece, x.Part, x.Boy], hkey := fun _ => rfl }
theorem dq : vG.n BenchBook = 5 := rfl
theorem jb : vG.n (Ar 3 Int) = 3 := rfl
theorem U1 (x : BenchBook) : Ax (some 5) 0 (vG.cells x) = some (vG.enc x) := BX x rfl
theorem Ui (x : BenchBook) : Ax (some 3) 0 (vG.cells x) = some (vG.enc x.Voice) := rfl
theorem eF : vG.n VoiceBook = 3 := rfl
theorem ZI (x : VoiceBook) : Ax none 0 (vG.cells x) = some (vG.enc x.Boys) := rfl
theorem YG (x : VoiceBook) : Ax none 1 (vG.cells x) = some (.int x.Weeks) := rfl
theorem YP (x : VoiceBook) : Ax none 2 (vG.cells x) = some (vG.enc x.Trials) := rfl
theorem V2 (x : AN) : Ax (some 11) 0 (vG.cells x) = some (vG.enc x) := BX x rfl
theorem qT (g : Nat) : BE.box g [.d (.int 0), .d (.int 0), .d (.int 0), .d (.int 0), .d (.int 0), .d (.int 0), .d (.int 0), .d (.int 0), .d (.int 0), .d (.int 0), .d (.int 0)] = BE.box g ((vG.cells ((AN.mk (Ec.mk 0 0) (Ec.mk 0 0) (Ec.mk 0 0) (Ec.mk 0 0) 0 (Ec.mk 0 0)) : AN)).map LV.d) := rfl
theorem je : vG.n AN = 11 := rfl
theorem W7 (x : AN) : Ax (some 2) 0 (vG.cells x) = some (vG.enc x.Low) := rfl
theorem qz : vG.n Ec = 2 := rfl
theorem nM (x : Ec) : Ax none 0 (vG.cells x) = some (.int x.Low) := rfl
theorem ng (x : Ec) : Ax none 1 (vG.cells x) = some (.int x.High) := rfl
theorem Wn (x : AN) : Ax (some 2) 2 (vG.cells x) = some (vG.enc x.High) := rfl
theorem W9 (x : AN) : Ax (some 2) 4 (vG.cells x) = some (vG.enc x.Gain) := rfl
theorem dD (x : AN) : Ax none 8 (vG.cells x) = some (.int x.Loss) := rfl
theorem WV (x : AN) : Ax (some 2) 6 (vG.cells x) = some (vG.enc x.Turn) := rfl
theorem WB (x : AN) : Ax (some 2) 9 (vG.cells x) = some (vG.enc x.Break) := rfl
theorem SG (x : AE) : Ax (some 4) 0 (vG.cells x) = some (vG.enc x) := BX x rfl
theorem pF (g : Nat) : BE.box g [.d (.int 0), .d (.int 0), .d (.int 0), .d (.int 0)] = BE.box g ((vG.cells ((AE.mk 0 0 0 0) : AE)).map LV.d) := rfl
theorem aP : vG.n AE = 4 := rfl
theorem VL (x : VoiceBook) : Ax (some 3) 0 (vG.cells x) = some (vG.enc x) := BX x rfl
theorem Vz (x : AE) : Ax none 0 (vG.cells x) = some (.int x.Boy) := rfl
theorem Wq (x : AE) : Ax none 1 (vG.cells x) = some (.int x.Week) := rfl
theorem Wv (x : AE) : Ax none 2 (vG.cells x) = some (.int x.Note) := rfl
theorem Vm (x : AE) : Ax none 3 (vG.cells x) = some (.int x.Sang) := rfl
theorem Zf (x : BenchBook) : Ax none 3 (vG.cells x) = some (vG.enc x.Pieces) := rfl
theorem YL (x : BenchBook) : Ax none 4 (vG.cells x) = some (.int x.Most) := rfl
theorem Su (x : AK) : Ax (some 2) 0 (vG.cells x) = some (vG.enc x) := BX x rfl
theorem oo (g : Nat) : BE.box g [.d (.int 0), .d (.nils)] = BE.box g ((vG.cells ((AK.mk 0 (Sl.nil : (Sl Ao))) : AK)).map LV.d) := rfl
theorem am : vG.n AK = 2 := rfl
theorem Wb (x : AK) : Ax none 0 (vG.cells x) = some (.int x.Week) := rfl
theorem Yj (x : BenchBook) : Ax none 1 (vG.cells x) = some (.int x.Voice.Weeks) := rfl
theorem Wa (x : AK) : Ax none 1 (vG.cells x) = some (vG.enc x.Parts) := rfl
theorem VH (x : Ao) : Ax (some 3) 0 (vG.cells x) = some (vG.enc x) := BX x rfl
theorem eu (g : Nat) : BE.box g [.d (.int 0), .d (.int 0), .d (.int 0)] = BE.box g ((vG.cells ((Ao.mk (Ec.mk 0 0) 0) : Ao)).map LV.d) := rfl
theorem eO : vG.n Ao = 3 := rfl
theorem ZO (x : Ao) : Ax none 0 (vG.cells x) = some (.int x.Notes.Low) := rfl
theorem Yi (x : Ao) : Ax none 1 (vG.cells x) = some (.int x.Notes.High) := rfl
theorem ZW (x : Ao) : Ax none 2 (vG.cells x) = some (.int x.Many) := rfl
theorem Zl (x : BenchBook) : Ax none 0 (vG.cells x) = some (vG.enc x.Voice.Boys) := rfl
theorem Y1 (x : BenchBook) : Ax none 2 (vG.cells x) = some (vG.enc x.Voice.Trials) := rfl
theorem VM (x : Ao) : Ax (some 2) 0 (vG.cells x) = some (vG.enc x.Notes) := rfl
theorem pC (g : Nat) : BE.box g [.d (.int 0), .d (.int 0)] = BE.box g ((vG.cells ((Ec.mk 0 0) : Ec)).map LV.d) := rfl
theorem HE (g : Nat) : BE.box g [.d (.nils), .d (.int 0), .d (.nils), .d (.nils), .d (.int 0), .d (.nilmap)] = BE.box g ((vG.cells ((AB.mk (BenchBook.mk (VoiceBook.mk (Sl.nil : (Sl AN)) 0 (Sl.nil : (Sl AE))) (Sl.nil : (Sl AK)) 0) (Mp.nil : (Mp 2 (Sl Int)))) : AB)).map LV.d) := rfl
theorem MK (g : Nat) : BE.box g [.d (.nils), .d (.int 0), .d (.nils), .d (.nils), .d (.nilmap)] = BE.box g ((vG.cells ((AA.mk (VoiceBook.mk (Sl.nil : (Sl AN)) 0 (Sl.nil : (Sl AE))) (Sl.nil : (Sl (Sl (Ar 5 Int)))) (Mp.nil : (Mp 2 (Sl (Ar 5 Int))))) : AA)).map LV.d) := rfl
theorem bh : vG.n AA = 5 := rfl
theorem ME (a0 : Ec) (a1 : Ec) (a2 : Ec) (a3 : Ec) (a4 : Ec) : EL [.int 0, .int 0, .int 0, .int 0, .int 0, .int 0, .int 0, .int 0, .int 0, .int 0] [(0, 2, .d (vG.enc a0)), (2, 2, .d (vG.enc a1)), (4, 2, .d (vG.enc a2)), (6, 2, .d (vG.enc a3)), (8, 2, .d (vG.enc a4))] = some (.d (vG.enc (⟨[a0, a1, a2, a3, a4], rfl⟩ : (Ar 5 Ec)))) := rfl
theorem pI (g : Nat) : BE.box g [.d (.int 0), .d (.int 0), .d (.int 0), .d (.int 0), .d (.int 0), .d (.int 0), .d (.int 0), .d (.int 0), .d (.int 0), .d (.int 0)] = BE.box g ((vG.cells ((⟨List.replicate 5 (Ec.mk 0 0), rfl⟩ : (Ar 5 Ec)) : (Ar 5 Ec))).map LV.d) := rfl
theorem eZ : vG.n (Ar 5 Ec) = 10 := rfl
theorem jn : vG.n (Ar 5 Int) = 5 := rfl
theorem WU (x : (Ar 5 Int)) : Ax (some 5) 0 (vG.cells x) = some (vG.enc x) := BX x rfl
theorem pw (a0 : Int) : V1 none [.int 0] 1 [(0, 1, .d (.int a0))] = some (Sl.lv (Sl.hot [a0] : Sl Int)) := rfl
theorem qW (g : Nat) : BE.box g [.d (.int 0), .d (.int 0), .d (.int 0), .d (.int 0), .d (.int 0)] = BE.box g ((vG.cells ((⟨List.replicate 5 0, rfl⟩ : (Ar 5 Int)) : (Ar 5 Int))).map LV.d) := rfl
theorem YQ (a0 : (Ar 5 Int)) : V1 (some 5) [.int 0, .int 0, .int 0, .int 0, .int 0] 1 [(0, 5, .d (vG.enc a0))] = some (Sl.lv (Sl.hot [a0] : Sl (Ar 5 Int))) := G7 [a0] rfl rfl
theorem Iq (a0 : Int) (a1 : Int) : EL [.int 0, .int 0] [(0, 1, .d (.int a0)), (1, 1, .d (.int a1))] = some (.d (vG.enc (Aa.mk a0 a1))) := rfl
theorem cG (g : Nat) : BE.box g [.d (.int 0), .d (.int 0)] = BE.box g ((vG.cells ((Aa.mk 0 0) : Aa)).map LV.d) := rfl
theorem b8 : vG.n Aa = 2 := rfl
theorem SS (x : Aa) : Ax (some 2) 0 (vG.cells x) = some (vG.enc x) := BX x rfl
theorem QS (a0 : (Sl (Ar 5 Int))) : V1 none [.nils] 1 [(0, 1, Sl.lv (Sl.spent a0))] = some (Sl.lv (Sl.hot [a0] : Sl (Sl (Ar 5 Int)))) := by cases a0 <;> rfl
theorem W6 (x : AA) : Ax none 3 (vG.cells x) = some (vG.enc x.truths) := rfl
theorem UJ (g : Nat) : BE.box g [.d (.nilfn)] = BE.box g ((vG.cells ((D9.mk Fv.nil) : D9)).map LV.d) := rfl
theorem HS  : EL [.nilfn] [(0, 1, .d (.fn 74 [] []))] = some (.d (vG.enc (D9.mk (Fv.mk 74 [] [])))) := rfl
theorem Up : vG.n D9 = 1 := rfl
theorem aC : vG.n AB = 6 := rfl
theorem EZ (a0 : Int) (a1 : Int) : EL [.int 0, .int 0] [(0, 1, .d (.int a0)), (1, 1, .d (.int a1))] = some (.d (vG.enc (AI.mk a0 a1))) := rfl
theorem oa (g : Nat) : BE.box g [.d (.int 0), .d (.int 0)] = BE.box g ((vG.cells ((AI.mk 0 0) : AI)).map LV.d) := rfl
theorem a7 : vG.n AI = 2 := rfl
theorem SE (x : AI) : Ax (some 2) 0 (vG.cells x) = some (vG.enc x) := BX x rfl
theorem WP (x : AI) : Ax none 0 (vG.cells x) = some (.int x.piece) := rfl
theorem Vt (x : AI) : Ax none 1 (vG.cells x) = some (.int x.part) := rfl
theorem SI (x : AA) : Ax (some 5) 0 (vG.cells x) = some (vG.enc x) := BX x rfl
theorem P1  : EL [.nils, .int 0, .nils, .nils, .nilmap] [] = some (.d (vG.enc (AA.mk (VoiceBook.mk (Sl.nil : (Sl AN)) 0 (Sl.nil : (Sl AE))) (Sl.nil : (Sl (Sl (Ar 5 Int)))) (Mp.nil : (Mp 2 (Sl (Ar 5 Int))))))) := rfl
theorem Zp (g : Nat) : BE.box g [.d (.int 0), .d (.int 0)] = BE.box g ((vG.cells ((Af.mk 0 0) : Af)).map LV.d) := rfl
theorem SU (a1 : Int) : EL [.int 0, .int 0] [(1, 1, .d (.int a1))] = some (.d (vG.enc (Af.mk 0 a1))) := rfl
theorem Yb : vG.n Af = 2 := rfl
theorem Vu (x : AA) : Ax none 4 (vG.cells x) = some (vG.enc x.whole) := rfl
theorem Wx (x : AA) : Ax none 0 (vG.cells x) = some (vG.enc x.VoiceBook.Boys) := rfl
theorem VQ (x : Af) : Ax none 0 (vG.cells x) = some (.int x.so) := rfl
theorem Uf (x : Af) (v : Int) : D5 1 0 ([.d (.int v)]) ((vG.cells x).map LV.d) = some ((vG.cells (Af.mk v x.of_)).map LV.d) := rfl
theorem Qp (x : Af) : Ax (some 2) 0 (vG.cells x) = some (vG.enc x) := BX x rfl
theorem VU (x : Af) : Ax none 1 (vG.cells x) = some (.int x.of_) := rfl
theorem KN  : EL [.nils, .int 0, .nils, .nils, .int 0, .nilmap] [] = some (.d (vG.enc (AB.mk (BenchBook.mk (VoiceBook.mk (Sl.nil : (Sl AN)) 0 (Sl.nil : (Sl AE))) (Sl.nil : (Sl AK)) 0) (Mp.nil : (Mp 2 (Sl Int)))))) := rfl
theorem W8 (x : AB) : Ax none 5 (vG.cells x) = some (vG.enc x.able) := rfl
theorem Kx (g : Nat) : BE.box g [.d (.nils), .d (.int 0), .d (.nils), .d (.nils), .d (.int 0)] = BE.box g ((vG.cells ((BenchBook.mk (VoiceBook.mk (Sl.nil : (Sl AN)) 0 (Sl.nil : (Sl AE))) (Sl.nil : (Sl AK)) 0) : BenchBook)).map LV.d) := rfl
theorem eD (g : Nat) : BE.box g [.d (.nils), .d (.int 0), .d (.nils)] = BE.box g ((vG.cells ((VoiceBook.mk (Sl.nil : (Sl AN)) 0 (Sl.nil : (Sl AE))) : VoiceBook)).map LV.d) := rfl
theorem Ro (a0 : Int) (a1 : Int) : EL [.int 0, .int 0] [(0, 1, .d (.int a0)), (1, 1, .d (.int a1))] = some (.d (vG.enc (Ec.mk a0 a1))) := rfl
theorem Ff (a0 : Ec) (a1 : Ec) (a2 : Ec) (a3 : Ec) (a5 : Ec) : EL [.int 0, .int 0, .int 0, .int 0, .int 0, .int 0, .int 0, .int 0, .int 0, .int 0, .int 0] [(0, 2, .d (vG.enc a0)), (2, 2, .d (vG.enc a1)), (4, 2, .d (vG.enc a2)), (6, 2, .d (vG.enc a3)), (8, 1, .d (.int 1)), (9, 2, .d (vG.enc a5))] = some (.d (vG.enc (AN.mk a0 a1 a2 a3 1 a5))) := rfl
theorem JA (a0 : Ec) (a1 : Ec) (a2 : Ec) (a3 : Ec) (a5 : Ec) : EL [.int 0, .int 0, .int 0, .int 0, .int 0, .int 0, .int 0, .int 0, .int 0, .int 0, .int 0] [(0, 2, .d (vG.enc a0)), (2, 2, .d (vG.enc a1)), (4, 2, .d (vG.enc a2)), (6, 2, .d (vG.enc a3)), (9, 2, .d (vG.enc a5))] = some (.d (vG.enc (AN.mk a0 a1 a2 a3 0 a5))) := rfl
theorem Zt (a0 : AN) (a1 : AN) : V1 (some 11) [.int 0, .int 0, .int 0, .int 0, .int 0, .int 0, .int 0, .int 0, .int 0, .int 0, .int 0] 2 [(0, 11, .d (vG.enc a0)), (11, 11, .d (vG.enc a1))] = some (Sl.lv (Sl.hot [a0, a1] : Sl AN)) := G7 [a0, a1] rfl rfl
theorem Ij (a0 : (Sl AN)) (a2 : (Sl AE)) : EL [.nils, .int 0, .nils] [(0, 1, .d (vG.enc a0)), (1, 1, .d (.int 4)), (2, 1, .d (vG.enc a2))] = some (.d (vG.enc (VoiceBook.mk a0 4 a2))) := by cases a0 <;> cases a2 <;> rfl
theorem KL (a0 : Ec) : EL [.int 0, .int 0, .int 0] [(0, 2, .d (vG.enc a0)), (2, 1, .d (.int 1))] = some (.d (vG.enc (Ao.mk a0 1))) := rfl
theorem Wi (a0 : Ao) (a1 : Ao) : V1 (some 3) [.int 0, .int 0, .int 0] 2 [(0, 3, .d (vG.enc a0)), (3, 3, .d (vG.enc a1))] = some (Sl.lv (Sl.hot [a0, a1] : Sl Ao)) := G7 [a0, a1] rfl rfl
theorem Jc (a1 : (Sl Ao)) : EL [.int 0, .nils] [(0, 1, .d (.int 0)), (1, 1, .d (vG.enc a1))] = some (.d (vG.enc (AK.mk 0 a1))) := by cases a1 <;> rfl
theorem WF (a0 : Ao) : V1 (some 3) [.int 0, .int 0, .int 0] 1 [(0, 3, .d (vG.enc a0))] = some (Sl.lv (Sl.hot [a0] : Sl Ao)) := G7 [a0] rfl rfl
theorem Jx (a1 : (Sl Ao)) : EL [.int 0, .nils] [(0, 1, .d (.int 3)), (1, 1, .d (vG.enc a1))] = some (.d (vG.enc (AK.mk 3 a1))) := by cases a1 <;> rfl
theorem Tu (a0 : AK) (a1 : AK) (a2 : AK) : V1 (some 2) [.int 0, .nils] 3 [(0, 2, .d (vG.enc a0)), (2, 2, .d (vG.enc a1)), (4, 2, .d (vG.enc a2))] = some (Sl.lv (Sl.hot [a0, a1, a2] : Sl AK)) := G7 [a0, a1, a2] rfl rfl
theorem NE (a0 : VoiceBook) (a1 : (Sl AK)) (a2 : Int) : EL [.nils, .int 0, .nils, .nils, .int 0] [(0, 3, .d (vG.enc a0)), (3, 1, .d (vG.enc a1)), (4, 1, .d (.int a2))] = some (.d (vG.enc (BenchBook.mk a0 a1 a2))) := by cases a1 <;> rfl
theorem SJ (x : AB) : Ax (some 6) 0 (vG.cells x) = some (vG.enc x) := BX x rfl
theorem Ws (x : AB) : Ax none 3 (vG.cells x) = some (vG.enc x.BenchBook.Pieces) := rfl
theorem IV (a0 : AI) (a1 : Int) : EL [.int 0, .int 0, .int 0, .int 0] [(0, 2, .d (vG.enc a0)), (2, 1, .d (.int a1)), (3, 1, .d (.int 0))] = some (.d (vG.enc (AH.mk a0 a1 0))) := rfl
theorem Tv (a0 : AH) : V1 (some 4) [.int 0, .int 0, .int 0, .int 0] 1 [(0, 4, .d (vG.enc a0))] = some (Sl.lv (Sl.hot [a0] : Sl AH)) := G7 [a0] rfl rfl
theorem UG (g : Nat) : BE.box g [.d (.int 0), .d (.int 0), .d (.int 0), .d (.int 0), .d (.int 0), .d (.int 0), .d (.int 0), .d (.int 0), .d (.int 0), .d (.int 0), .d (.int 0), .d (.int 0), .d (.int 0), .d (.int 0), .d (.int 0), .d (.int 0), .d (.int 0), .d (.int 0), .d (.int 0), .d (.int 0), .d (.int 0), .d (.int 0), .d (.int 0), .d (.int 0)] = BE.box g ((vG.cells ((⟨List.replicate 24 0, rfl⟩ : (Ar 24 Int)) : (Ar 24 Int))).map LV.d) := rfl
theorem TY (x : (Ar 24 Int)) : Ax (some 24) 0 (vG.cells x) = some (vG.enc x) := BX x rfl
theorem eQ : vG.n (Ar 24 Int) = 24 := rfl
theorem V6 (x : AH) : Ax none 2 (vG.cells x) = some (.int x.many) := rfl
theorem Sr (x : AH) : Ax (some 4) 0 (vG.cells x) = some (vG.enc x) := BX x rfl
theorem oq (g : Nat) : BE.box g [.d (.int 0), .d (.int 0), .d (.int 0), .d (.int 0)] = BE.box g ((vG.cells ((AH.mk (AI.mk 0 0) 0 0) : AH)).map LV.d) := rfl
theorem cP : vG.n AH = 4 := rfl
theorem SL (x : AH) : Ax (some 2) 0 (vG.cells x) = some (vG.enc x.at_) := rfl
theorem W4 (x : AH) : Ax none 3 (vG.cells x) = some (.int x.from_) := rfl
theorem V4 (x : AH) : Ax none 0 (vG.cells x) = some (.int x.at_.piece) := rfl
theorem UW (x : AC) : Ax (some 3) 0 (vG.cells x) = some (vG.enc x) := BX x rfl
theorem dZ : vG.n AC = 3 := rfl
theorem ZX (x : AC) : Ax none 0 (vG.cells x) = some (.int x.Piece) := rfl
theorem Zz (x : AC) : Ax none 2 (vG.cells x) = some (.int x.Boy) := rfl
theorem WZ (x : AB) : Ax none 4 (vG.cells x) = some (.int x.BenchBook.Most) := rfl
theorem MJ (a0 : AI) (a1 : Int) (a2 : Int) : EL [.int 0, .int 0, .int 0, .int 0] [(0, 2, .d (vG.enc a0)), (2, 1, .d (.int a1)), (3, 1, .d (.int a2))] = some (.d (vG.enc (AH.mk a0 a1 a2))) := rfl
theorem WJ (x : AH) : Ax none 1 (vG.cells x) = some (.int x.at_.part) := rfl
theorem Hf (a0 : Int) (a1 : Int) (a2 : Int) : EL [.int 0, .int 0, .int 0] [(0, 1, .d (.int a0)), (1, 1, .d (.int a1)), (2, 1, .d (.int a2))] = some (.d (vG.enc (AC.mk a0 a1 a2))) := rfl
theorem WN (a0 : AC) : V1 (some 3) [.int 0, .int 0, .int 0] 1 [(0, 3, .d (vG.enc a0))] = some (Sl.lv (Sl.hot [a0] : Sl AC)) := G7 [a0] rfl rfl
theorem LM  : V1 none [.int 0] 2 [(0, 1, .d (.int 0)), (1, 1, .d (.int 2))] = some (Sl.lv (Sl.hot [0, 2] : Sl Int)) := rfl
theorem eo (g : Nat) : BE.box g [.d (.int 0), .d (.int 0), .d (.int 0)] = BE.box g ((vG.cells ((AC.mk 0 0 0) : AC)).map LV.d) := rfl
theorem WE (a0 : AC) (a1 : AC) (a2 : AC) : V1 (some 3) [.int 0, .int 0, .int 0] 3 [(0, 3, .d (vG.enc a0)), (3, 3, .d (vG.enc a1)), (6, 3, .d (vG.enc a2))] = some (Sl.lv (Sl.hot [a0, a1, a2] : Sl AC)) := G7 [a0, a1, a2] rfl rfl
theorem LL  : V1 none [.int 0] 2 [(0, 1, .d (.int 0)), (1, 1, .d (.int 1))] = some (Sl.lv (Sl.hot [0, 1] : Sl Int)) := rfl
theorem Zy  : V1 none [.int 0] 1 [(0, 1, .d (.int 1))] = some (Sl.lv (Sl.hot [1] : Sl Int)) := rfl
theorem Vw (a0 : AC) (a1 : AC) (a2 : AC) (a3 : AC) : V1 (some 3) [.int 0, .int 0, .int 0] 4 [(0, 3, .d (vG.enc a0)), (3, 3, .d (vG.enc a1)), (6, 3, .d (vG.enc a2)), (9, 3, .d (vG.enc a3))] = some (Sl.lv (Sl.hot [a0, a1, a2, a3] : Sl AC)) := G7 [a0, a1, a2, a3] rfl rfl
theorem iu : vG.n (Ar 2 Int) = 2 := rfl
theorem Qn  : V1 (some 4) [.int 0, .int 0, .int 0, .int 0] 0 [] = some (Sl.lv (Sl.hot [] : Sl AE)) := rfl
theorem TM (a0 : AE) : V1 (some 4) [.int 0, .int 0, .int 0, .int 0] 1 [(0, 4, .d (vG.enc a0))] = some (Sl.lv (Sl.hot [a0] : Sl AE)) := G7 [a0] rfl rfl
def AA.lc (e : AA) (j t g : Nat) : List LV := [.d (vG.enc e.VoiceBook.Boys), .d (.int e.VoiceBook.Weeks), .d (vG.enc e.VoiceBook.Trials), .d (vG.enc e.truths), .mref j t g]
def AB.lc (e : AB) (j t g : Nat) : List LV := [.d (vG.enc e.BenchBook.Voice.Boys), .d (.int e.BenchBook.Voice.Weeks), .d (vG.enc e.BenchBook.Voice.Trials), .d (vG.enc e.BenchBook.Pieces), .d (.int e.BenchBook.Most), .mref j t g]
def AQ (e : AA) (j t g : Nat) : List LV := [.d (vG.enc e.VoiceBook.Boys), .d (.int e.VoiceBook.Weeks), .d (vG.enc e.VoiceBook.Trials), Sl.lv (Sl.unf e.truths), .mref j t g]
def BenchBook.cww2 (e : BenchBook) : List LV := [.d (vG.enc e.Voice.Boys), .d (.int e.Voice.Weeks), Sl.lv (Sl.unf e.Voice.Trials), .d (vG.enc e.Pieces), .d (.int e.Most)]
def VoiceBook.cww2 (e : VoiceBook) : List LV := [.d (vG.enc e.Boys), .d (.int e.Weeks), Sl.lv (Sl.unf e.Trials)]
theorem Oo (a0 : VoiceBook) (j t g : Nat) : EL [.nils, .int 0, .nils, .nils, .nilmap] [(0, 3, .d (vG.enc a0)), (4, 1, .mref j t g)] = some (.agg (AA.lc (AA.mk a0 (Sl.nil : (Sl (Sl (Ar 5 Int)))) (Mp.nil : (Mp 2 (Sl (Ar 5 Int))))) j t g)) := rfl
theorem JV (e : AA) (j t g : Nat) (cs : List LV) (h : cs.length = 5) : D5 5 0 (AA.lc e j t g) cs = some (AA.lc e j t g) := RD h rfl (by simp only [AA.lc, List.all_cons, List.all_nil, Na, Nl, NW, JH, Gy, TB, Bool.and_self])
theorem Ba (e : AA) (j t g : Nat) : part (some 5) 0 (AA.lc e j t g) = some (.agg (AA.lc e j t g)) := rfl
theorem Et (e : AA) (j t g : Nat) : XL 5 (.agg (AA.lc e j t g)) = some (AA.lc e j t g) := by
 simp only [XL, Q2]
 rw [if_pos ⟨rfl, by simp only [AA.lc, List.all_cons, List.all_nil, Na, Nl, NW, JH, Gy, TB, Bool.and_self]⟩]
theorem Qc (e : AA) (j t g : Nat) : part (some 5) 0 (AA.lc e j t g) = some (.agg (AA.lc e j t g)) := rfl
theorem PE (e : AA) (j t g : Nat) (r : List LV) : AU (.agg (AA.lc e j t g) :: r) = none := rfl
theorem VG (e : AA) (j t g : Nat) : part none 0 (AA.lc e j t g) = some (.d (vG.enc e.VoiceBook.Boys)) := rfl
theorem OW (e : AA) (j t g : Nat) : part none 2 (AA.lc e j t g) = some (.d (vG.enc e.VoiceBook.Trials)) := rfl
theorem Nz (e : AA) (j t g : Nat) : part none 0 (AA.lc e j t g) = some (.d (vG.enc e.VoiceBook.Boys)) := rfl
theorem dr (e : AA) (j t g : Nat) : part none 4 (AA.lc e j t g) = some (.mref j t g) := rfl
theorem gj {e : AA} {j t g : Nat} {v : (Sl (Sl (Ar 5 Int)))} (h : v.lv = v.unf.lv) : D5 1 3 [v.lv] (AA.lc e j t g) = some (AQ (AA.mk e.VoiceBook v e.whole) j t g) := by
 cases v <;> first | rfl | (cases h)
theorem Fe (e : AA) (j t g : Nat) : part (some 5) 0 (AQ e j t g) = some (.agg (AA.lc e j t g)) := by
 cases h0 : e.truths <;> first | rfl | (simp only [AA.lc, AQ, h0]; rfl) | (simp only [AA.lc, AQ, h0])
theorem LE (e : AA) (j t g : Nat) : part none 4 (AQ e j t g) = some (.mref j t g) := rfl
theorem LZ (e : AA) (j t g : Nat) : List.set (AQ e j t g) 3 (.d (vG.enc e.truths)) = (AQ (AA.mk e.VoiceBook e.truths.cool e.whole) j t g) := by
 cases h0 : e.truths <;> first | rfl | (simp only [AA.lc, AQ, h0]; rfl) | (simp only [AA.lc, AQ, h0])
theorem Ln {e : AA} {j t g : Nat} {v : (Sl (Sl (Ar 5 Int)))} (h : v.lv = v.unf.lv) : D5 1 3 [v.lv] (AQ e j t g) = some (AQ (AA.mk e.VoiceBook v e.whole) j t g) := by
 cases v <;> first | rfl | (cases h)
theorem QV {s : St} {t tm g gm : Nat} {e : AA} {es : List (List Int × (Sl (Ar 5 Int)))} (h : s.raw t = some (.box g (AA.lc e s.low.length tm gm))) (hm : s.raw tm = some (.mapo gm 2 (DK es))) : Rh s (t, some (some 5)) = some (.d (vG.enc ((AA.mk e.VoiceBook e.truths (Mp.mk es))))) := by
 simp only [St.raw] at h hm
 have hc : (AA.lc e s.low.length tm gm).map LV.copy = AA.lc e s.low.length tm gm := rfl
 have hl : (AA.lc e s.low.length tm gm).length = 5 := rfl
 have hn : LV.norm (.agg (AA.lc e s.low.length tm gm)) = .agg (AA.lc e s.low.length tm gm) := rfl
 simp only [Rh, Ci, h, hl, if_true, hc, hn, Option.bind_some]
 show (((AA.lc e s.low.length tm gm).mapM (freeze s.low.length s.env 8)).map fun cs => LV.norm (.agg cs)) = _
 simp only [AA.lc, List.mapM_cons, List.mapM_nil, fb, Xj _ _ _ _ _ _ _ hm]
 rfl
theorem PS (e : AA) (j t g : Nat) : (AA.lc e j t g) = (AQ (AA.mk e.VoiceBook e.truths.cool e.whole) j t g) := by
 cases h0 : e.truths <;> first | rfl | (simp only [AA.lc, AQ, h0]; rfl) | (simp only [AA.lc, AQ, h0])
theorem Pj (a0 : BenchBook) (j t g : Nat) : EL [.nils, .int 0, .nils, .nils, .int 0, .nilmap] [(0, 5, .d (vG.enc a0)), (5, 1, .mref j t g)] = some (.agg (AB.lc (AB.mk a0 (Mp.nil : (Mp 2 (Sl Int)))) j t g)) := rfl
theorem Ey (e : AB) (j t g : Nat) (cs : List LV) (h : cs.length = 6) : D5 6 0 (AB.lc e j t g) cs = some (AB.lc e j t g) := RD h rfl (by simp only [AB.lc, List.all_cons, List.all_nil, Na, Nl, NW, JH, Gy, TB, Bool.and_self])
theorem Di (e : AB) (j t g : Nat) : part (some 6) 0 (AB.lc e j t g) = some (.agg (AB.lc e j t g)) := rfl
theorem It (e : AB) (j t g : Nat) (r : List LV) : AU (.agg (AB.lc e j t g) :: r) = none := rfl
theorem Q7 (e : AB) (j t g : Nat) : XL 6 (.agg (AB.lc e j t g)) = some (AB.lc e j t g) := by
 simp only [XL, Q2]
 rw [if_pos ⟨rfl, by simp only [AB.lc, List.all_cons, List.all_nil, Na, Nl, NW, JH, Gy, TB, Bool.and_self]⟩]
theorem OU (e : AB) (j t g : Nat) : part none 3 (AB.lc e j t g) = some (.d (vG.enc e.BenchBook.Pieces)) := rfl
theorem ML (e : AB) (j t g : Nat) : part (some 3) 0 (AB.lc e j t g) = some (.d (vG.enc e.BenchBook.Voice)) := rfl
theorem Ia (e : AB) (j t g : Nat) : part none 5 (AB.lc e j t g) = some (.mref j t g) := rfl
theorem Jn {s : St} {t tm g gm : Nat} {e : AB} {es : List (List Int × (Sl Int))} (h : s.raw t = some (.box g (AB.lc e s.low.length tm gm))) (hm : s.raw tm = some (.mapo gm 2 (DK es))) : Rh s (t, some (some 6)) = some (.d (vG.enc ((AB.mk e.BenchBook (Mp.mk es))))) := by
 simp only [St.raw] at h hm
 have hc : (AB.lc e s.low.length tm gm).map LV.copy = AB.lc e s.low.length tm gm := rfl
 have hl : (AB.lc e s.low.length tm gm).length = 6 := rfl
 have hn : LV.norm (.agg (AB.lc e s.low.length tm gm)) = .agg (AB.lc e s.low.length tm gm) := rfl
 simp only [Rh, Ci, h, hl, if_true, hc, hn, Option.bind_some]
 show (((AB.lc e s.low.length tm gm).mapM (freeze s.low.length s.env 8)).map fun cs => LV.norm (.agg cs)) = _
 simp only [AB.lc, List.mapM_cons, List.mapM_nil, fb, Xj _ _ _ _ _ _ _ hm]
 rfl
theorem Qv {e : BenchBook} {v : (Sl AE)} (h : v.lv = v.unf.lv) : D5 1 2 [v.lv] ((vG.cells e).map LV.d) = some (BenchBook.cww2 (BenchBook.mk (VoiceBook.mk e.Voice.Boys e.Voice.Weeks v) e.Pieces e.Most)) := by
 cases v <;> first | rfl | (cases h)
theorem QP {e : VoiceBook} {v : (Sl AE)} (h : v.lv = v.unf.lv) : D5 1 2 [v.lv] ((vG.cells e).map LV.d) = some (VoiceBook.cww2 (VoiceBook.mk e.Boys e.Weeks v)) := by
 cases v <;> first | rfl | (cases h)
theorem J9 (e : VoiceBook) : part (some 3) 0 (VoiceBook.cww2 e) = some (.d (vG.enc e)) := by
 obtain ⟨_, _, z⟩ := e
 cases z <;> rfl
theorem D7 (e : BenchBook) : part (some 5) 0 (BenchBook.cww2 e) = some (.d (vG.enc e)) := by
 obtain ⟨⟨_, _, z⟩, _, _⟩ := e
 cases z <;> rfl
def ps := And.intro @ME <| And.intro @NE <| And.intro @KL <| And.intro @Jc <| And.intro @Jx <| And.intro @Ij <| And.intro @Ff <| And.intro @JA <| And.intro @Pj <| And.intro @IV <| And.intro @MJ <| And.intro @Oo <| And.intro @YQ <| And.intro @WF <| And.intro @Wi <| And.intro @Tu <| And.intro @WN <| And.intro @WE <| And.intro @Vw <| And.intro @LL <| And.intro @LM <| And.intro @Zy <| And.intro @pw <| And.intro @QS <| And.intro @Zt <| And.intro @TM <| And.intro @Tv <| And.intro @eQ <| And.intro @iu <| And.intro @jb <| And.intro @jn <| And.intro @eZ <| And.intro @dq <| And.intro @eO <| And.intro @am <| And.intro @dZ <| And.intro @qz <| And.intro @eF <| And.intro @je <| And.intro @aP <| And.intro @aC <| And.intro @a7 <| And.intro @cP <| And.intro @Up <| And.intro @bh <| And.intro @b8 <| And.intro @Yb <| And.intro @TY <| And.intro @WU <| And.intro @Zl <| And.intro @Ui <| And.intro @Yj <| And.intro @Y1 <| And.intro @Zf <| And.intro @YL <| And.intro @U1 <| And.intro @ZO <| And.intro @VM <| And.intro @Yi <| And.intro @ZW <| And.intro @VH <| And.intro @Wb <| And.intro @Wa <| And.intro @Su <| And.intro @ZX <| And.intro @Zz <| And.intro @UW <| And.intro @nM <| And.intro @ng <| And.intro @ZI <| And.intro @YG <| And.intro @YP <| And.intro @VL <| And.intro @W7 <| And.intro @Wn <| And.intro @W9 <| And.intro @WV <| And.intro @dD <| And.intro @WB <| And.intro @V2 <| And.intro @Vz <| And.intro @Wq <| And.intro @Wv <| And.intro @Vm <| And.intro @SG <| And.intro @Ws <| And.intro @WZ <| And.intro @W8 <| And.intro @SJ <| And.intro @WP <| And.intro @Vt <| And.intro @SE <| And.intro @V4 <| And.intro @SL <| And.intro @WJ <| And.intro @V6 <| And.intro @W4 <| And.intro @Sr <| And.intro @Wx <| And.intro @W6 <| And.intro @Vu <| And.intro @SI <| And.intro @SS <| And.intro @VQ <| And.intro @VU <| And.intro @Qp <| And.intro @Uf trivial
section
variable {LP : A2} {ks : List dX} {J : vI → St → Prop} {s : St} {B : List Nat} {ops : List AG} {keep : List Nat} {low : List Fr} {l : Nat → HN}
theorem Ra (hl : s.low = low) (hf : uY B s) (h' : ∀ c s', DW (l c) s' → s'.low = low → uY B s' → Nx LP J s' 60 ks (.inl .normal)) (hB : ops.all (vM B) = true := by rfl)
 (h : ∀ c, kn keep (Lf.evalOps LP (om LP) c ops (s.atc c ops.length)) = some (l c, low) := by intro c; simp only [rt, ps, uD hf, *, reduceCtorEq, Nat.reduceEqDiff, Nat.reduceAdd, Nat.reduceMul] <;> rfl) : Run LP ks (.ops ops keep) s J := sj hl hf hB h h'
theorem Rx (d : Nat → HN) (hl : s.low = low) (hf : uY B s) (h' : ∀ c s', DW (l c) s' → s'.low = low → uY B s' → Nx LP J s' 60 ks (.inl .normal)) (hB : ops.all (vM B) = true := by rfl)
 (h0 : ∀ c, lk (d c) keep s = some (l c) := by intro c; (first | simp only [dR, VC, VD, QA, Py, r, if_true, if_false, Nat.reduceEqDiff] | simp only [dR, VC, VD, QA, Py, *, if_true, if_false, Nat.reduceEqDiff]); all_goals rfl)
 (h : ∀ c, kn keep (Lf.evalOps LP (om LP) c ops (s.atc c ops.length)) = some (l c, low) := by intro c; repeat' (simp only [rt, ps, uD hf, *, reduceCtorEq, Nat.reduceEqDiff, Nat.reduceAdd, Nat.reduceMul] <;> first | refine uz (fun _ => ?_) fun _ => ?_ | refine gd (fun _ => ?_) fun _ => ?_)) : Run LP ks (.ops ops keep) s J := sj hl hf hB h h'
theorem Rq {α : Type} {o : Option α} {x : α} (d : Nat → HN) (hl : s.low = low) (hf : uY B s) (q : o = some x) (h' : ∀ c s', DW (l c) s' → s'.low = low → uY B s' → Nx LP J s' 60 ks (.inl .normal)) (hB : ops.all (vM B) = true := by rfl)
 (h0 : ∀ c, lk (d c) keep s = some (l c) := by intro c; (first | simp only [dR, VC, VD, QA, Py, r, if_true, if_false, Nat.reduceEqDiff] | simp only [dR, VC, VD, QA, Py, *, if_true, if_false, Nat.reduceEqDiff]); all_goals rfl)
 (h : ∀ c, kn keep (Lf.evalOps LP (om LP) c ops (s.atc c ops.length)) = some (l c, low) := by
  intro c; revert q; (repeat' (first | refine gb fun _ _ => ?_ | refine gi (fun _ => ?_) fun _ => ?_)); (all_goals (intro q; cases q)); all_goals (repeat' (simp only [rt, ps, uD hf, *, reduceCtorEq, Nat.reduceEqDiff, Nat.reduceAdd, Nat.reduceMul] <;> first | refine uz (fun _ => ?_) fun _ => ?_ | refine gd (fun _ => ?_) fun _ => ?_))) : Run LP ks (.ops ops keep) s J := sj hl hf hB h h'
end
end Go.Lf
