/- A part of the proof. -/
import Derived.Test.YtopknkghclncnaaGreatDoorx4
set_option linter.all false
namespace Go.Lf
open Go
structure Fo where
 Low : Int
 High : Int
 deriving DecidableEq
instance : Bq Fo := { n := 2, cells := fun x => [.int x.Low, .int x.High], enc := fun x => .agg [.int x.Low, .int x.High], law := fun _ => rfl, agg := fun _ => rfl, len := fun _ => rfl, ok := fun _ => rfl, key := fun x => [x.Low, x.High], hkey := fun _ => rfl }
structure AO where
 Low : Fo
 High : Fo
 Gain : Fo
 Turn : Fo
 Loss : Int
 Break : Fo
instance : Bq AO := { n := 11, cells := fun x => [.int x.Low.Low, .int x.Low.High, .int x.High.Low, .int x.High.High, .int x.Gain.Low, .int x.Gain.High, .int x.Turn.Low, .int x.Turn.High, .int x.Loss, .int x.Break.Low, .int x.Break.High], enc := fun x => .agg [.int x.Low.Low, .int x.Low.High, .int x.High.Low, .int x.High.High, .int x.Gain.Low, .int x.Gain.High, .int x.Turn.Low, .int x.Turn.High, .int x.Loss, .int x.Break.Low, .int x.Break.High], law := fun _ => rfl, agg := fun _ => rfl, len := fun _ => rfl, ok := fun _ => rfl, key := fun x => [x.Low.Low, x.Low.High, x.High.Low, x.High.High, x.Gain.Low, x.Gain.High, x.Turn.Low, x.Turn.High, x.Loss, x.Break.Low, x.Break.High], hkey := fun _ => rfl }
structure AN where
 Boy : Int
 Week : Int
 Note : Int
 Sang : Int
 deriving DecidableEq
instance : Bq AN := { n := 4, cells := fun x => [.int x.Boy, .int x.Week, .int x.Note, .int x.Sang], enc := fun x => .agg [.int x.Boy, .int x.Week, .int x.Note, .int x.Sang], law := fun _ => rfl, agg := fun _ => rfl, len := fun _ => rfl, ok := fun _ => rfl, key := fun x => [x.Boy, x.Week, x.Note, x.Sang], hkey := fun _ => rfl }
structure VoiceBook where
 Boys : (Sl AO)
 Weeks : Int
 Trials : (Sl AN)
instance : UE VoiceBook := { n := 3, cells := fun x => [Enc.enc x.Boys, .int x.Weeks, Enc.enc x.Trials], enc := fun x => .agg [Enc.enc x.Boys, .int x.Weeks, Enc.enc x.Trials], law := fun _ => rfl, agg := fun _ => rfl, len := fun _ => rfl, ok := fun x => by simp only [List.map_cons, List.map_nil, List.all_cons, List.all_nil, QI, QO, QZ, LD, Iq, Bool.and_self] }
structure Ax where
 Notes : Fo
 Many : Int
instance : Bq Ax := { n := 3, cells := fun x => [.int x.Notes.Low, .int x.Notes.High, .int x.Many], enc := fun x => .agg [.int x.Notes.Low, .int x.Notes.High, .int x.Many], law := fun _ => rfl, agg := fun _ => rfl, len := fun _ => rfl, ok := fun _ => rfl, key := fun x => [x.Notes.Low, x.Notes.High, x.Many], hkey := fun _ => rfl }
structure AM where
 Week : Int
 Parts : (Sl Ax)
instance : UE AM := { n := 2, cells := fun x => [.int x.Week, Enc.enc x.Parts], enc := fun x => .agg [.int x.Week, Enc.enc x.Parts], law := fun _ => rfl, agg := fun _ => rfl, len := fun _ => rfl, ok := fun x => by simp only [List.map_cons, List.map_nil, List.all_cons, List.all_nil, QI, QO, QZ, LD, Iq, Bool.and_self] }
structure BenchBook where
 Voice : VoiceBook
 Pieces : (Sl AM)
 Most : Int
instance : UE BenchBook := { n := 5, cells := fun x => [Enc.enc x.Voice.Boys, .int x.Voice.Weeks, Enc.enc x.Voice.Trials, Enc.enc x.Pieces, .int x.Most], enc := fun x => .agg [Enc.enc x.Voice.Boys, .int x.Voice.Weeks, Enc.enc x.Voice.Trials, Enc.enc x.Pieces, .int x.Most], law := fun _ => rfl, agg := fun _ => rfl, len := fun _ => rfl, ok := fun x => by simp only [List.map_cons, List.map_nil, List.all_cons, List.all_nil, QI, QO, QZ, LD, Iq, Bool.and_self] }
structure Ae where
 boy : Int
 week : Int
 deriving DecidableEq
instance : Bq Ae := { n := 2, cells := fun x => [.int x.boy, .int x.week], enc := fun x => .agg [.int x.boy, .int x.week], law := fun _ => rfl, agg := fun _ => rfl, len := fun _ => rfl, ok := fun _ => rfl, key := fun x => [x.boy, x.week], hkey := fun _ => rfl }
structure AB where
 VoiceBook : VoiceBook
 truths : (Sl (Sl (Ar 5 Int)))
 whole : (Mp 2 (Sl (Ar 5 Int)))
instance : UE AB := { n := 5, cells := fun x => [Enc.enc x.VoiceBook.Boys, .int x.VoiceBook.Weeks, Enc.enc x.VoiceBook.Trials, Enc.enc x.truths, Enc.enc x.whole], enc := fun x => .agg [Enc.enc x.VoiceBook.Boys, .int x.VoiceBook.Weeks, Enc.enc x.VoiceBook.Trials, Enc.enc x.truths, Enc.enc x.whole], law := fun _ => rfl, agg := fun _ => rfl, len := fun _ => rfl, ok := fun x => by simp only [List.map_cons, List.map_nil, List.all_cons, List.all_nil, QI, QO, QZ, LD, Iq, Bool.and_self] }
structure EO where
 out : Fv
instance : UE EO := { n := 1, cells := fun x => [Enc.enc x.out], enc := fun x => .agg [Enc.enc x.out], law := fun _ => rfl, agg := fun _ => rfl, len := fun _ => rfl, ok := fun x => by simp only [List.map_cons, List.map_nil, List.all_cons, List.all_nil, QI, QO, QZ, LD, Iq, Bool.and_self] }
structure AL where
 piece : Int
 part : Int
 deriving DecidableEq
instance : Bq AL := { n := 2, cells := fun x => [.int x.piece, .int x.part], enc := fun x => .agg [.int x.piece, .int x.part], law := fun _ => rfl, agg := fun _ => rfl, len := fun _ => rfl, ok := fun _ => rfl, key := fun x => [x.piece, x.part], hkey := fun _ => rfl }
structure AC where
 BenchBook : BenchBook
 able : (Mp 2 (Sl Int))
instance : UE AC := { n := 6, cells := fun x => [Enc.enc x.BenchBook.Voice.Boys, .int x.BenchBook.Voice.Weeks, Enc.enc x.BenchBook.Voice.Trials, Enc.enc x.BenchBook.Pieces, .int x.BenchBook.Most, Enc.enc x.able], enc := fun x => .agg [Enc.enc x.BenchBook.Voice.Boys, .int x.BenchBook.Voice.Weeks, Enc.enc x.BenchBook.Voice.Trials, Enc.enc x.BenchBook.Pieces, .int x.BenchBook.Most, Enc.enc x.able], law := fun _ => rfl, agg := fun _ => rfl, len := fun _ => rfl, ok := fun x => by simp only [List.map_cons, List.map_nil, List.all_cons, List.all_nil, QI, QO, QZ, LD, Iq, Bool.and_self] }
structure Am where
 so : Int
 of_ : Int
 deriving DecidableEq
instance : Bq Am := { n := 2, cells := fun x => [.int x.so, .int x.of_], enc := fun x => .agg [.int x.so, .int x.of_], law := fun _ => rfl, agg := fun _ => rfl, len := fun _ => rfl, ok := fun _ => rfl, key := fun x => [x.so, x.of_], hkey := fun _ => rfl }
structure AD where
 Low : Int
 High : Int
 Gain : Int
 Turn : Int
 Loss : Int
 Break : Int
 deriving DecidableEq
instance : Bq AD := { n := 6, cells := fun x => [.int x.Low, .int x.High, .int x.Gain, .int x.Turn, .int x.Loss, .int x.Break], enc := fun x => .agg [.int x.Low, .int x.High, .int x.Gain, .int x.Turn, .int x.Loss, .int x.Break], law := fun _ => rfl, agg := fun _ => rfl, len := fun _ => rfl, ok := fun _ => rfl, key := fun x => [x.Low, x.High, x.Gain, x.Turn, x.Loss, x.Break], hkey := fun _ => rfl }
structure AK where
 at_ : AL
 many : Int
 from_ : Int
instance : Bq AK := { n := 4, cells := fun x => [.int x.at_.piece, .int x.at_.part, .int x.many, .int x.from_], enc := fun x => .agg [.int x.at_.piece, .int x.at_.part, .int x.many, .int x.from_], law := fun _ => rfl, agg := fun _ => rfl, len := fun _ => rfl, ok := fun _ => rfl, key := fun x => [x.at_.piece, x.at_.part, x.many, x.from_], hkey := fun _ => rfl }
structure AA where
 Piece : Int
 Part : Int
 Boy : Int
 deriving DecidableEq
instance : Bq AA := { n := 3, cells := fun x => [.int x.Piece, .int x.Part, .int x.Boy], enc := fun x => .agg [.int x.Piece, .int x.Part, .int x.Boy], law := fun _ => rfl, agg := fun _ => rfl, len := fun _ => rfl, ok := fun _ => rfl, key := fun x => [x.Piece, x.Part, x.Boy], hkey := fun _ => rfl }
theorem mY : Enc.n BenchBook = 5 := rfl
theorem gh (x : BenchBook) : Au none 3 (Enc.cells x) = some (Enc.enc x.Pieces) := rfl
theorem y2 : Enc.n Fo = 2 := rfl
theorem vZ (x : Fo) : Au none 0 (Enc.cells x) = some (.int x.Low) := rfl
theorem wN (x : Fo) : Au none 1 (Enc.cells x) = some (.int x.High) := rfl
theorem na : Enc.n VoiceBook = 3 := rfl
theorem gx (x : VoiceBook) : Au none 0 (Enc.cells x) = some (Enc.enc x.Boys) := rfl
theorem f6 (x : VoiceBook) : Au none 1 (Enc.cells x) = some (.int x.Weeks) := rfl
theorem jj : Enc.n AN = 4 := rfl
theorem XI (x : VoiceBook) : Au (some 3) 0 (Enc.cells x) = some (Enc.enc x) := Bf x rfl
theorem bP (x : AN) : Au none 0 (Enc.cells x) = some (.int x.Boy) := rfl
theorem Zy (x : AN) : Au none 1 (Enc.cells x) = some (.int x.Week) := rfl
theorem af (x : AN) : Au none 2 (Enc.cells x) = some (.int x.Note) := rfl
theorem aF (x : AN) : Au none 3 (Enc.cells x) = some (.int x.Sang) := rfl
theorem gB (x : VoiceBook) : Au none 2 (Enc.cells x) = some (Enc.enc x.Trials) := rfl
theorem ak (x : AO) : Au (some 11) 0 (Enc.cells x) = some (Enc.enc x) := Bf x rfl
theorem ym (g : Nat) : BM.box g [.d (.int 0), .d (.int 0), .d (.int 0), .d (.int 0), .d (.int 0), .d (.int 0), .d (.int 0), .d (.int 0), .d (.int 0), .d (.int 0), .d (.int 0)] = BM.box g ((Enc.cells ((AO.mk (Fo.mk 0 0) (Fo.mk 0 0) (Fo.mk 0 0) (Fo.mk 0 0) 0 (Fo.mk 0 0)) : AO)).map LV.d) := rfl
theorem rh : Enc.n AO = 11 := rfl
theorem bT (x : AO) : Au (some 2) 0 (Enc.cells x) = some (Enc.enc x.Low) := rfl
theorem ai (x : AO) : Au (some 2) 2 (Enc.cells x) = some (Enc.enc x.High) := rfl
theorem aU (x : AO) : Au (some 2) 4 (Enc.cells x) = some (Enc.enc x.Gain) := rfl
theorem i6 (x : AO) : Au none 8 (Enc.cells x) = some (.int x.Loss) := rfl
theorem a8 (x : AO) : Au (some 2) 6 (Enc.cells x) = some (Enc.enc x.Turn) := rfl
theorem aL (x : AO) : Au (some 2) 9 (Enc.cells x) = some (Enc.enc x.Break) := rfl
theorem Vr (x : AN) : Au (some 4) 0 (Enc.cells x) = some (Enc.enc x) := Bf x rfl
theorem xW (g : Nat) : BM.box g [.d (.int 0), .d (.int 0), .d (.int 0), .d (.int 0)] = BM.box g ((Enc.cells ((AN.mk 0 0 0 0) : AN)).map LV.d) := rfl
theorem ZF (x : BenchBook) : Au (some 3) 0 (Enc.cells x) = some (Enc.enc x.Voice) := rfl
theorem dV (x : BenchBook) : Au none 4 (Enc.cells x) = some (.int x.Most) := rfl
theorem V3 (x : AM) : Au (some 2) 0 (Enc.cells x) = some (Enc.enc x) := Bf x rfl
theorem xF (g : Nat) : BM.box g [.d (.int 0), .d (.nils)] = BM.box g ((Enc.cells ((AM.mk 0 (Sl.nil : (Sl Ax))) : AM)).map LV.d) := rfl
theorem kU : Enc.n AM = 2 := rfl
theorem Z6 (x : AM) : Au none 0 (Enc.cells x) = some (.int x.Week) := rfl
theorem d6 (x : BenchBook) : Au none 1 (Enc.cells x) = some (.int x.Voice.Weeks) := rfl
theorem bG (x : AM) : Au none 1 (Enc.cells x) = some (Enc.enc x.Parts) := rfl
theorem XV (x : Ax) : Au (some 3) 0 (Enc.cells x) = some (Enc.enc x) := Bf x rfl
theorem nk (g : Nat) : BM.box g [.d (.int 0), .d (.int 0), .d (.int 0)] = BM.box g ((Enc.cells ((Ax.mk (Fo.mk 0 0) 0) : Ax)).map LV.d) := rfl
theorem nF : Enc.n Ax = 3 := rfl
theorem fJ (x : Ax) : Au none 0 (Enc.cells x) = some (.int x.Notes.Low) := rfl
theorem dX (x : Ax) : Au none 1 (Enc.cells x) = some (.int x.Notes.High) := rfl
theorem da (x : Ax) : Au none 2 (Enc.cells x) = some (.int x.Many) := rfl
theorem kQ : Enc.n AB = 5 := rfl
theorem Oi (g : Nat) : BM.box g [.d (.nils), .d (.int 0), .d (.nils), .d (.nils), .d (.nilmap)] = BM.box g ((Enc.cells ((AB.mk (VoiceBook.mk (Sl.nil : (Sl AO)) 0 (Sl.nil : (Sl AN))) (Sl.nil : (Sl (Sl (Ar 5 Int)))) (Mp.nil : (Mp 2 (Sl (Ar 5 Int))))) : AB)).map LV.d) := rfl
theorem OL (a0 : Fo) (a1 : Fo) (a2 : Fo) (a3 : Fo) (a4 : Fo) : Ep [.int 0, .int 0, .int 0, .int 0, .int 0, .int 0, .int 0, .int 0, .int 0, .int 0] [(0, 2, .d (Enc.enc a0)), (2, 2, .d (Enc.enc a1)), (4, 2, .d (Enc.enc a2)), (6, 2, .d (Enc.enc a3)), (8, 2, .d (Enc.enc a4))] = some (.d (Enc.enc (⟨[a0, a1, a2, a3, a4], rfl⟩ : (Ar 5 Fo)))) := rfl
theorem xl (g : Nat) : BM.box g [.d (.int 0), .d (.int 0), .d (.int 0), .d (.int 0), .d (.int 0), .d (.int 0), .d (.int 0), .d (.int 0), .d (.int 0), .d (.int 0)] = BM.box g ((Enc.cells ((⟨List.replicate 5 (Fo.mk 0 0), rfl⟩ : (Ar 5 Fo)) : (Ar 5 Fo))).map LV.d) := rfl
theorem me : Enc.n (Ar 5 Fo) = 10 := rfl
theorem ri : Enc.n (Ar 5 Int) = 5 := rfl
theorem xH (g : Nat) : BM.box g [.d (.int 0), .d (.int 0)] = BM.box g ((Enc.cells ((Fo.mk 0 0) : Fo)).map LV.d) := rfl
theorem bU (x : (Ar 5 Int)) : Au (some 5) 0 (Enc.cells x) = some (Enc.enc x) := Bf x rfl
theorem xz (a0 : Int) : RY none [.int 0] 1 [(0, 1, .d (.int a0))] = some (Sl.lv (Sl.hot [a0] : Sl Int)) := rfl
theorem yy (g : Nat) : BM.box g [.d (.int 0), .d (.int 0), .d (.int 0), .d (.int 0), .d (.int 0)] = BM.box g ((Enc.cells ((⟨List.replicate 5 0, rfl⟩ : (Ar 5 Int)) : (Ar 5 Int))).map LV.d) := rfl
theorem en (a0 : (Ar 5 Int)) : RY (some 5) [.int 0, .int 0, .int 0, .int 0, .int 0] 1 [(0, 5, .d (Enc.enc a0))] = some (Sl.lv (Sl.hot [a0] : Sl (Ar 5 Int))) := Ir [a0] rfl rfl
theorem K5 (a0 : Int) (a1 : Int) : Ep [.int 0, .int 0] [(0, 1, .d (.int a0)), (1, 1, .d (.int a1))] = some (.d (Enc.enc (Ae.mk a0 a1))) := rfl
theorem iC (g : Nat) : BM.box g [.d (.int 0), .d (.int 0)] = BM.box g ((Enc.cells ((Ae.mk 0 0) : Ae)).map LV.d) := rfl
theorem jx : Enc.n Ae = 2 := rfl
theorem V2 (x : Ae) : Au (some 2) 0 (Enc.cells x) = some (Enc.enc x) := Bf x rfl
theorem UR (a0 : (Sl (Ar 5 Int))) : RY none [.nils] 1 [(0, 1, Sl.lv (Sl.spent a0))] = some (Sl.lv (Sl.hot [a0] : Sl (Sl (Ar 5 Int)))) := by cases a0 <;> rfl
theorem be (x : AB) : Au none 3 (Enc.cells x) = some (Enc.enc x.truths) := rfl
theorem Y7 (g : Nat) : BM.box g [.d (.nilfn)] = BM.box g ((Enc.cells ((EO.mk Fv.nil) : EO)).map LV.d) := rfl
theorem I7  : Ep [.nilfn] [(0, 1, .d (.fn 85 [] []))] = some (.d (Enc.enc (EO.mk (Fv.mk 85 [] [])))) := rfl
theorem Xy : Enc.n EO = 1 := rfl
theorem JE (g : Nat) : BM.box g [.d (.nils), .d (.int 0), .d (.nils), .d (.nils), .d (.int 0), .d (.nilmap)] = BM.box g ((Enc.cells ((AC.mk (BenchBook.mk (VoiceBook.mk (Sl.nil : (Sl AO)) 0 (Sl.nil : (Sl AN))) (Sl.nil : (Sl AM)) 0) (Mp.nil : (Mp 2 (Sl Int)))) : AC)).map LV.d) := rfl
theorem Xh (x : BenchBook) : Au (some 5) 0 (Enc.cells x) = some (Enc.enc x) := Bf x rfl
theorem jz : Enc.n AC = 6 := rfl
theorem Ff (a0 : Int) (a1 : Int) : Ep [.int 0, .int 0] [(0, 1, .d (.int a0)), (1, 1, .d (.int a1))] = some (.d (Enc.enc (AL.mk a0 a1))) := rfl
theorem xU (g : Nat) : BM.box g [.d (.int 0), .d (.int 0)] = BM.box g ((Enc.cells ((AL.mk 0 0) : AL)).map LV.d) := rfl
theorem i7 : Enc.n AL = 2 := rfl
theorem fG (x : BenchBook) : Au none 0 (Enc.cells x) = some (Enc.enc x.Voice.Boys) := rfl
theorem UL (x : EO) : Au none 0 (Enc.cells x) = some (Enc.enc x.out) := rfl
theorem V7 (x : AL) : Au (some 2) 0 (Enc.cells x) = some (Enc.enc x) := Bf x rfl
theorem bI (x : AL) : Au none 0 (Enc.cells x) = some (.int x.piece) := rfl
theorem bf (x : AL) : Au none 1 (Enc.cells x) = some (.int x.part) := rfl
theorem ZT (x : Ax) : Au (some 2) 0 (Enc.cells x) = some (Enc.enc x.Notes) := rfl
theorem Vs (x : AB) : Au (some 5) 0 (Enc.cells x) = some (Enc.enc x) := Bf x rfl
theorem TY  : Ep [.nils, .int 0, .nils, .nils, .nilmap] [] = some (.d (Enc.enc (AB.mk (VoiceBook.mk (Sl.nil : (Sl AO)) 0 (Sl.nil : (Sl AN))) (Sl.nil : (Sl (Sl (Ar 5 Int)))) (Mp.nil : (Mp 2 (Sl (Ar 5 Int))))))) := rfl
theorem ew (g : Nat) : BM.box g [.d (.int 0), .d (.int 0)] = BM.box g ((Enc.cells ((Am.mk 0 0) : Am)).map LV.d) := rfl
theorem Vl (a1 : Int) : Ep [.int 0, .int 0] [(1, 1, .d (.int a1))] = some (.d (Enc.enc (Am.mk 0 a1))) := rfl
theorem gX : Enc.n Am = 2 := rfl
theorem bQ (x : AB) : Au none 4 (Enc.cells x) = some (Enc.enc x.whole) := rfl
theorem bg (x : AB) : Au none 0 (Enc.cells x) = some (Enc.enc x.VoiceBook.Boys) := rfl
theorem Wp (x : Am) : Au none 0 (Enc.cells x) = some (.int x.so) := rfl
theorem Xo (x : Am) (v : Int) : EP 1 0 ([.d (.int v)]) ((Enc.cells x).map LV.d) = some ((Enc.cells (Am.mk v x.of_)).map LV.d) := rfl
theorem Up (x : Am) : Au (some 2) 0 (Enc.cells x) = some (Enc.enc x) := Bf x rfl
theorem Xt (x : Am) : Au none 1 (Enc.cells x) = some (.int x.of_) := rfl
theorem Me  : Ep [.nils, .int 0, .nils, .nils, .int 0, .nilmap] [] = some (.d (Enc.enc (AC.mk (BenchBook.mk (VoiceBook.mk (Sl.nil : (Sl AO)) 0 (Sl.nil : (Sl AN))) (Sl.nil : (Sl AM)) 0) (Mp.nil : (Mp 2 (Sl Int)))))) := rfl
theorem bv (x : AC) : Au none 5 (Enc.cells x) = some (Enc.enc x.able) := rfl
theorem dm : Enc.n AD = 6 := rfl
theorem Ws (x : AD) : Au none 3 (Enc.cells x) = some (.int x.Turn) := rfl
theorem Yk (x : AD) : Au none 1 (Enc.cells x) = some (.int x.High) := rfl
theorem XM (x : AD) : Au none 2 (Enc.cells x) = some (.int x.Gain) := rfl
theorem Yp (x : AD) : Au none 4 (Enc.cells x) = some (.int x.Loss) := rfl
theorem XP (x : AD) : Au none 5 (Enc.cells x) = some (.int x.Break) := rfl
theorem Xe (x : AD) : Au none 0 (Enc.cells x) = some (.int x.Low) := rfl
theorem Tv (x : AD) : Au (some 6) 0 (Enc.cells x) = some (Enc.enc x) := Bf x rfl
theorem WE (a4 : Int) : Ep [.int 0, .int 0, .int 0, .int 0, .int 0, .int 0] [(4, 1, .d (.int a4))] = some (.d (Enc.enc (AD.mk 0 0 0 0 a4 0))) := rfl
theorem vN (g : Nat) : BM.box g [.d (.int 0), .d (.int 0), .d (.int 0), .d (.int 0), .d (.int 0), .d (.int 0)] = BM.box g ((Enc.cells ((AD.mk 0 0 0 0 0 0) : AD)).map LV.d) := rfl
theorem lX (x : AO) : Au none 0 (Enc.cells x) = some (.int x.Low.Low) := rfl
theorem X0 (x : AD) (v : Int) : EP 1 0 ([.d (.int v)]) ((Enc.cells x).map LV.d) = some ((Enc.cells (AD.mk v x.High x.Gain x.Turn x.Loss x.Break)).map LV.d) := rfl
theorem kb (x : AO) : Au none 1 (Enc.cells x) = some (.int x.Low.High) := rfl
theorem lg (x : AO) : Au none 2 (Enc.cells x) = some (.int x.High.Low) := rfl
theorem ZV (x : AD) (v : Int) : EP 1 1 ([.d (.int v)]) ((Enc.cells x).map LV.d) = some ((Enc.cells (AD.mk x.Low v x.Gain x.Turn x.Loss x.Break)).map LV.d) := rfl
theorem iy (x : AO) : Au none 3 (Enc.cells x) = some (.int x.High.High) := rfl
theorem kD (x : AO) : Au none 4 (Enc.cells x) = some (.int x.Gain.Low) := rfl
theorem W8 (x : AD) (v : Int) : EP 1 2 ([.d (.int v)]) ((Enc.cells x).map LV.d) = some ((Enc.cells (AD.mk x.Low x.High v x.Turn x.Loss x.Break)).map LV.d) := rfl
theorem lD (x : AO) : Au none 5 (Enc.cells x) = some (.int x.Gain.High) := rfl
theorem kO (x : AO) : Au none 6 (Enc.cells x) = some (.int x.Turn.Low) := rfl
theorem Zb (x : AD) (v : Int) : EP 1 3 ([.d (.int v)]) ((Enc.cells x).map LV.d) = some ((Enc.cells (AD.mk x.Low x.High x.Gain v x.Loss x.Break)).map LV.d) := rfl
theorem lJ (x : AO) : Au none 7 (Enc.cells x) = some (.int x.Turn.High) := rfl
theorem iM (x : AO) : Au none 9 (Enc.cells x) = some (.int x.Break.Low) := rfl
theorem Yg (x : AD) (v : Int) : EP 1 5 ([.d (.int v)]) ((Enc.cells x).map LV.d) = some ((Enc.cells (AD.mk x.Low x.High x.Gain x.Turn x.Loss v)).map LV.d) := rfl
theorem dZ (x : AO) : Au none 10 (Enc.cells x) = some (.int x.Break.High) := rfl
theorem Vn (a0 : AD) : RY (some 6) [.int 0, .int 0, .int 0, .int 0, .int 0, .int 0] 1 [(0, 6, .d (Enc.enc a0))] = some (Sl.lv (Sl.hot [a0] : Sl AD)) := Ir [a0] rfl rfl
theorem qi  : RY none [.int 0] 0 [] = some (Sl.lv (Sl.hot [] : Sl Int)) := rfl
theorem nf (a0 : (Sl Int)) : RY none [.nils] 1 [(0, 1, Sl.lv (Sl.spent a0))] = some (Sl.lv (Sl.hot [a0] : Sl (Sl Int))) := by cases a0 <;> rfl
theorem Xi (a0 : (Sl (Sl Int))) : RY none [.nils] 1 [(0, 1, Sl.lv (Sl.spent a0))] = some (Sl.lv (Sl.hot [a0] : Sl (Sl (Sl Int)))) := by cases a0 <;> rfl
theorem bJ (x : AC) : Au none 3 (Enc.cells x) = some (Enc.enc x.BenchBook.Pieces) := rfl
theorem Jx (a0 : AL) (a1 : Int) : Ep [.int 0, .int 0, .int 0, .int 0] [(0, 2, .d (Enc.enc a0)), (2, 1, .d (.int a1)), (3, 1, .d (.int 0))] = some (.d (Enc.enc (AK.mk a0 a1 0))) := rfl
theorem Yb (a0 : AK) : RY (some 4) [.int 0, .int 0, .int 0, .int 0] 1 [(0, 4, .d (Enc.enc a0))] = some (Sl.lv (Sl.hot [a0] : Sl AK)) := Ir [a0] rfl rfl
theorem V5 (x : AC) : Au (some 6) 0 (Enc.cells x) = some (Enc.enc x) := Bf x rfl
theorem Yu (g : Nat) : BM.box g [.d (.int 0), .d (.int 0), .d (.int 0), .d (.int 0), .d (.int 0), .d (.int 0), .d (.int 0), .d (.int 0), .d (.int 0), .d (.int 0), .d (.int 0), .d (.int 0), .d (.int 0), .d (.int 0), .d (.int 0), .d (.int 0), .d (.int 0), .d (.int 0), .d (.int 0), .d (.int 0), .d (.int 0), .d (.int 0), .d (.int 0), .d (.int 0)] = BM.box g ((Enc.cells ((⟨List.replicate 24 0, rfl⟩ : (Ar 24 Int)) : (Ar 24 Int))).map LV.d) := rfl
theorem XE (x : (Ar 24 Int)) : Au (some 24) 0 (Enc.cells x) = some (Enc.enc x) := Bf x rfl
theorem nW : Enc.n (Ar 24 Int) = 24 := rfl
theorem cA (x : AK) : Au none 2 (Enc.cells x) = some (.int x.many) := rfl
theorem WL (x : AK) : Au (some 4) 0 (Enc.cells x) = some (Enc.enc x) := Bf x rfl
theorem xE (g : Nat) : BM.box g [.d (.int 0), .d (.int 0), .d (.int 0), .d (.int 0)] = BM.box g ((Enc.cells ((AK.mk (AL.mk 0 0) 0 0) : AK)).map LV.d) := rfl
theorem iw : Enc.n AK = 4 := rfl
theorem WC (x : AK) : Au (some 2) 0 (Enc.cells x) = some (Enc.enc x.at_) := rfl
theorem aV (x : AK) : Au none 3 (Enc.cells x) = some (.int x.from_) := rfl
theorem bA (x : AK) : Au none 0 (Enc.cells x) = some (.int x.at_.piece) := rfl
theorem Xz (x : AA) : Au (some 3) 0 (Enc.cells x) = some (Enc.enc x) := Bf x rfl
theorem mA : Enc.n AA = 3 := rfl
theorem eR (x : AA) : Au none 0 (Enc.cells x) = some (.int x.Piece) := rfl
theorem gw (x : AA) : Au none 2 (Enc.cells x) = some (.int x.Boy) := rfl
theorem b8 (x : AC) : Au none 4 (Enc.cells x) = some (.int x.BenchBook.Most) := rfl
theorem OU (a0 : AL) (a1 : Int) (a2 : Int) : Ep [.int 0, .int 0, .int 0, .int 0] [(0, 2, .d (Enc.enc a0)), (2, 1, .d (.int a1)), (3, 1, .d (.int a2))] = some (.d (Enc.enc (AK.mk a0 a1 a2))) := rfl
theorem aO (x : AK) : Au none 1 (Enc.cells x) = some (.int x.at_.part) := rfl
theorem Gm (a0 : Int) (a1 : Int) (a2 : Int) : Ep [.int 0, .int 0, .int 0] [(0, 1, .d (.int a0)), (1, 1, .d (.int a1)), (2, 1, .d (.int a2))] = some (.d (Enc.enc (AA.mk a0 a1 a2))) := rfl
theorem Zv (a0 : AA) : RY (some 3) [.int 0, .int 0, .int 0] 1 [(0, 3, .d (Enc.enc a0))] = some (Sl.lv (Sl.hot [a0] : Sl AA)) := Ir [a0] rfl rfl
theorem WG (a0 : (Sl AA)) : RY none [.nils] 1 [(0, 1, .d (Enc.enc a0))] = some (Sl.lv (Sl.hot [a0] : Sl (Sl AA))) := by cases a0 <;> rfl
theorem N8  : RY (some 3) [.int 0, .int 0, .int 0] 0 [] = some (Sl.lv (Sl.hot [] : Sl AA)) := rfl
theorem mJ (g : Nat) : BM.box g [.d (.int 0), .d (.int 0), .d (.int 0)] = BM.box g ((Enc.cells ((AA.mk 0 0 0) : AA)).map LV.d) := rfl
theorem eB (x : AA) : Au none 1 (Enc.cells x) = some (.int x.Part) := rfl
theorem mF (a0 : Int) (a1 : Int) (a2 : Int) : RY none [.int 0] 3 [(0, 1, .d (.int a0)), (1, 1, .d (.int a1)), (2, 1, .d (.int a2))] = some (Sl.lv (Sl.hot [a0, a1, a2] : Sl Int)) := rfl
theorem Vf (a0 : Int) (a1 : Int) : Ep [.int 0, .int 0] [(0, 1, .d (.int a0)), (1, 1, .d (.int a1))] = some (.d (Enc.enc (Fo.mk a0 a1))) := rfl
theorem mW (g : Nat) : BM.box g [.d (.nils), .d (.int 0), .d (.nils)] = BM.box g ((Enc.cells ((VoiceBook.mk (Sl.nil : (Sl AO)) 0 (Sl.nil : (Sl AN))) : VoiceBook)).map LV.d) := rfl
theorem HW (a0 : Fo) (a1 : Fo) (a2 : Fo) (a3 : Fo) (a5 : Fo) : Ep [.int 0, .int 0, .int 0, .int 0, .int 0, .int 0, .int 0, .int 0, .int 0, .int 0, .int 0] [(0, 2, .d (Enc.enc a0)), (2, 2, .d (Enc.enc a1)), (4, 2, .d (Enc.enc a2)), (6, 2, .d (Enc.enc a3)), (8, 1, .d (.int 1)), (9, 2, .d (Enc.enc a5))] = some (.d (Enc.enc (AO.mk a0 a1 a2 a3 1 a5))) := rfl
theorem LS (a0 : Fo) (a1 : Fo) (a2 : Fo) (a3 : Fo) (a5 : Fo) : Ep [.int 0, .int 0, .int 0, .int 0, .int 0, .int 0, .int 0, .int 0, .int 0, .int 0, .int 0] [(0, 2, .d (Enc.enc a0)), (2, 2, .d (Enc.enc a1)), (4, 2, .d (Enc.enc a2)), (6, 2, .d (Enc.enc a3)), (9, 2, .d (Enc.enc a5))] = some (.d (Enc.enc (AO.mk a0 a1 a2 a3 0 a5))) := rfl
theorem gG (a0 : AO) (a1 : AO) : RY (some 11) [.int 0, .int 0, .int 0, .int 0, .int 0, .int 0, .int 0, .int 0, .int 0, .int 0, .int 0] 2 [(0, 11, .d (Enc.enc a0)), (11, 11, .d (Enc.enc a1))] = some (Sl.lv (Sl.hot [a0, a1] : Sl AO)) := Ir [a0, a1] rfl rfl
theorem Ks (a0 : (Sl AO)) (a2 : (Sl AN)) : Ep [.nils, .int 0, .nils] [(0, 1, .d (Enc.enc a0)), (1, 1, .d (.int 4)), (2, 1, .d (Enc.enc a2))] = some (.d (Enc.enc (VoiceBook.mk a0 4 a2))) := by cases a0 <;> cases a2 <;> rfl
theorem Mc (a0 : Fo) : Ep [.int 0, .int 0, .int 0] [(0, 2, .d (Enc.enc a0)), (2, 1, .d (.int 1))] = some (.d (Enc.enc (Ax.mk a0 1))) := rfl
theorem Nw (g : Nat) : BM.box g [.d (.nils), .d (.int 0), .d (.nils), .d (.nils), .d (.int 0)] = BM.box g ((Enc.cells ((BenchBook.mk (VoiceBook.mk (Sl.nil : (Sl AO)) 0 (Sl.nil : (Sl AN))) (Sl.nil : (Sl AM)) 0) : BenchBook)).map LV.d) := rfl
theorem aR (a0 : Ax) (a1 : Ax) : RY (some 3) [.int 0, .int 0, .int 0] 2 [(0, 3, .d (Enc.enc a0)), (3, 3, .d (Enc.enc a1))] = some (Sl.lv (Sl.hot [a0, a1] : Sl Ax)) := Ir [a0, a1] rfl rfl
theorem L6 (a1 : (Sl Ax)) : Ep [.int 0, .nils] [(0, 1, .d (.int 0)), (1, 1, .d (Enc.enc a1))] = some (.d (Enc.enc (AM.mk 0 a1))) := by cases a1 <;> rfl
theorem ay (a0 : Ax) : RY (some 3) [.int 0, .int 0, .int 0] 1 [(0, 3, .d (Enc.enc a0))] = some (Sl.lv (Sl.hot [a0] : Sl Ax)) := Ir [a0] rfl rfl
theorem MQ (a1 : (Sl Ax)) : Ep [.int 0, .nils] [(0, 1, .d (.int 3)), (1, 1, .d (Enc.enc a1))] = some (.d (Enc.enc (AM.mk 3 a1))) := by cases a1 <;> rfl
theorem YB (a0 : AM) (a1 : AM) (a2 : AM) : RY (some 2) [.int 0, .nils] 3 [(0, 2, .d (Enc.enc a0)), (2, 2, .d (Enc.enc a1)), (4, 2, .d (Enc.enc a2))] = some (Sl.lv (Sl.hot [a0, a1, a2] : Sl AM)) := Ir [a0, a1, a2] rfl rfl
theorem QD (a0 : VoiceBook) (a1 : (Sl AM)) (a2 : Int) : Ep [.nils, .int 0, .nils, .nils, .int 0] [(0, 3, .d (Enc.enc a0)), (3, 1, .d (Enc.enc a1)), (4, 1, .d (.int a2))] = some (.d (Enc.enc (BenchBook.mk a0 a1 a2))) := by cases a1 <;> rfl
theorem al (a0 : AA) (a1 : AA) (a2 : AA) : RY (some 3) [.int 0, .int 0, .int 0] 3 [(0, 3, .d (Enc.enc a0)), (3, 3, .d (Enc.enc a1)), (6, 3, .d (Enc.enc a2))] = some (Sl.lv (Sl.hot [a0, a1, a2] : Sl AA)) := Ir [a0, a1, a2] rfl rfl
theorem ON  : RY none [.int 0] 2 [(0, 1, .d (.int 0)), (1, 1, .d (.int 2))] = some (Sl.lv (Sl.hot [0, 2] : Sl Int)) := rfl
theorem On  : RY none [.int 0] 2 [(0, 1, .d (.int 0)), (1, 1, .d (.int 1))] = some (Sl.lv (Sl.hot [0, 1] : Sl Int)) := rfl
theorem de  : RY none [.int 0] 1 [(0, 1, .d (.int 1))] = some (Sl.lv (Sl.hot [1] : Sl Int)) := rfl
theorem Zx (a0 : AA) (a1 : AA) (a2 : AA) (a3 : AA) : RY (some 3) [.int 0, .int 0, .int 0] 4 [(0, 3, .d (Enc.enc a0)), (3, 3, .d (Enc.enc a1)), (6, 3, .d (Enc.enc a2)), (9, 3, .d (Enc.enc a3))] = some (Sl.lv (Sl.hot [a0, a1, a2, a3] : Sl AA)) := Ir [a0, a1, a2, a3] rfl rfl
theorem qo : Enc.n (Ar 2 Int) = 2 := rfl
theorem YQ (a1 : Int) : RY none [.int 0] 2 [(0, 1, .d (.int 0)), (1, 1, .d (.int a1))] = some (Sl.lv (Sl.hot [0, a1] : Sl Int)) := rfl
theorem JO  : RY none [.int 0] 3 [(0, 1, .d (.int 0)), (1, 1, .d (.int 1)), (2, 1, .d (.int 2))] = some (Sl.lv (Sl.hot [0, 1, 2] : Sl Int)) := rfl
theorem aA (a0 : (Sl Int)) (a1 : (Sl Int)) (a2 : (Sl Int)) : RY none [.nils] 3 [(0, 1, .d (Enc.enc a0)), (1, 1, .d (Enc.enc a1)), (2, 1, .d (Enc.enc a2))] = some (Sl.lv (Sl.hot [a0, a1, a2] : Sl (Sl Int))) := by cases a0 <;> cases a1 <;> cases a2 <;> rfl
theorem OY  : RY none [.nils] 1 [(0, 1, .d (.nils))] = some (Sl.lv (Sl.hot [(Sl.nil : (Sl AA))] : Sl (Sl AA))) := rfl
theorem UK (a0 : (Sl AA)) : RY none [.nils] 1 [(0, 1, Sl.lv (Sl.spent a0))] = some (Sl.lv (Sl.hot [a0] : Sl (Sl AA))) := by cases a0 <;> rfl
theorem Vm (x : AC) : Au (some 3) 0 (Enc.cells x) = some (Enc.enc x.BenchBook.Voice) := rfl
theorem Zu (x : AB) : Au none 2 (Enc.cells x) = some (Enc.enc x.VoiceBook.Trials) := rfl
def AB.lc (e : AB) (j t g : Nat) : List LV := [.d (Enc.enc e.VoiceBook.Boys), .d (.int e.VoiceBook.Weeks), .d (Enc.enc e.VoiceBook.Trials), .d (Enc.enc e.truths), .mref j t g]
def AC.lc (e : AC) (j t g : Nat) : List LV := [.d (Enc.enc e.BenchBook.Voice.Boys), .d (.int e.BenchBook.Voice.Weeks), .d (Enc.enc e.BenchBook.Voice.Trials), .d (Enc.enc e.BenchBook.Pieces), .d (.int e.BenchBook.Most), .mref j t g]
def AW (e : AB) (j t g : Nat) : List LV := [.d (Enc.enc e.VoiceBook.Boys), .d (.int e.VoiceBook.Weeks), .d (Enc.enc e.VoiceBook.Trials), Sl.lv (Sl.unf e.truths), .mref j t g]
theorem Tf (a0 : VoiceBook) (j t g : Nat) : Ep [.nils, .int 0, .nils, .nils, .nilmap] [(0, 3, .d (Enc.enc a0)), (4, 1, .mref j t g)] = some (.agg (AB.lc (AB.mk a0 (Sl.nil : (Sl (Sl (Ar 5 Int)))) (Mp.nil : (Mp 2 (Sl (Ar 5 Int))))) j t g)) := rfl
theorem L0 (e : AB) (j t g : Nat) (cs : List LV) (h : cs.length = 5) : EP 5 0 (AB.lc e j t g) cs = some (AB.lc e j t g) := VN h rfl (by simp only [AB.lc, List.all_cons, List.all_nil, QI, QO, QZ, LD, Iq, Wa, Bool.and_self])
theorem Bv (e : AB) (j t g : Nat) : part (some 5) 0 (AB.lc e j t g) = some (.agg (AB.lc e j t g)) := rfl
theorem Gg (e : AB) (j t g : Nat) : cD 5 (.agg (AB.lc e j t g)) = some (AB.lc e j t g) := by
 simp only [cD, UJ]
 rw [if_pos ⟨rfl, by simp only [AB.lc, List.all_cons, List.all_nil, QI, QO, QZ, LD, Iq, Wa, Bool.and_self]⟩]
theorem UQ (e : AB) (j t g : Nat) : part (some 5) 0 (AB.lc e j t g) = some (.agg (AB.lc e j t g)) := rfl
theorem TV (e : AB) (j t g : Nat) (r : List LV) : AZ (.agg (AB.lc e j t g) :: r) = none := rfl
theorem Xv (e : AB) (j t g : Nat) : part none 0 (AB.lc e j t g) = some (.d (Enc.enc e.VoiceBook.Boys)) := rfl
theorem RO (e : AB) (j t g : Nat) : part none 2 (AB.lc e j t g) = some (.d (Enc.enc e.VoiceBook.Trials)) := rfl
theorem Qn (e : AB) (j t g : Nat) : part none 0 (AB.lc e j t g) = some (.d (Enc.enc e.VoiceBook.Boys)) := rfl
theorem nO (e : AB) (j t g : Nat) : part none 4 (AB.lc e j t g) = some (.mref j t g) := rfl
theorem qG {e : AB} {j t g : Nat} {v : (Sl (Sl (Ar 5 Int)))} (h : v.lv = v.unf.lv) : EP 1 3 [v.lv] (AB.lc e j t g) = some (AW (AB.mk e.VoiceBook v e.whole) j t g) := by
 cases v <;> first | rfl | (cases h)
theorem HF (e : AB) (j t g : Nat) : part (some 5) 0 (AW e j t g) = some (.agg (AB.lc e j t g)) := by
 cases h0 : e.truths <;> first | rfl | (simp only [AB.lc, AW, h0]; rfl) | (simp only [AB.lc, AW, h0])
theorem OC (e : AB) (j t g : Nat) : part none 4 (AW e j t g) = some (.mref j t g) := rfl
theorem O8 (e : AB) (j t g : Nat) : List.set (AW e j t g) 3 (.d (Enc.enc e.truths)) = (AW (AB.mk e.VoiceBook e.truths.cool e.whole) j t g) := by
 cases h0 : e.truths <;> first | rfl | (simp only [AB.lc, AW, h0]; rfl) | (simp only [AB.lc, AW, h0])
theorem PM {e : AB} {j t g : Nat} {v : (Sl (Sl (Ar 5 Int)))} (h : v.lv = v.unf.lv) : EP 1 3 [v.lv] (AW e j t g) = some (AW (AB.mk e.VoiceBook v e.whole) j t g) := by
 cases v <;> first | rfl | (cases h)
theorem UN {s : St} {t tm g gm : Nat} {e : AB} {es : List (List Int × (Sl (Ar 5 Int)))} (h : s.raw t = some (.box g (AB.lc e s.low.length tm gm))) (hm : s.raw tm = some (.mapo gm 2 (D4 es))) : VC s (t, some (some 5)) = some (.d (Enc.enc ((AB.mk e.VoiceBook e.truths (Mp.mk es))))) := by
 simp only [St.raw] at h hm
 have hc : (AB.lc e s.low.length tm gm).map LV.copy = AB.lc e s.low.length tm gm := rfl
 have hl : (AB.lc e s.low.length tm gm).length = 5 := rfl
 have hn : LV.norm (.agg (AB.lc e s.low.length tm gm)) = .agg (AB.lc e s.low.length tm gm) := rfl
 simp only [VC, DW, h, hl, if_true, hc, hn, Option.bind_some]
 show (((AB.lc e s.low.length tm gm).mapM (freeze s.low.length s.env 8)).map fun cs => LV.norm (.agg cs)) = _
 simp only [AB.lc, List.mapM_cons, List.mapM_nil, pf, dE _ _ _ _ _ _ _ hm]
 rfl
theorem S5 (e : AB) (j t g : Nat) : (AB.lc e j t g) = (AW (AB.mk e.VoiceBook e.truths.cool e.whole) j t g) := by
 cases h0 : e.truths <;> first | rfl | (simp only [AB.lc, AW, h0]; rfl) | (simp only [AB.lc, AW, h0])
theorem RZ (a0 : BenchBook) (j t g : Nat) : Ep [.nils, .int 0, .nils, .nils, .int 0, .nilmap] [(0, 5, .d (Enc.enc a0)), (5, 1, .mref j t g)] = some (.agg (AC.lc (AC.mk a0 (Mp.nil : (Mp 2 (Sl Int)))) j t g)) := rfl
theorem GM (e : AC) (j t g : Nat) (cs : List LV) (h : cs.length = 6) : EP 6 0 (AC.lc e j t g) cs = some (AC.lc e j t g) := VN h rfl (by simp only [AC.lc, List.all_cons, List.all_nil, QI, QO, QZ, LD, Iq, Wa, Bool.and_self])
theorem EB (e : AC) (j t g : Nat) : part (some 6) 0 (AC.lc e j t g) = some (.agg (AC.lc e j t g)) := rfl
theorem Kx (e : AC) (j t g : Nat) (r : List LV) : AZ (.agg (AC.lc e j t g) :: r) = none := rfl
theorem T9 (e : AC) (j t g : Nat) : cD 6 (.agg (AC.lc e j t g)) = some (AC.lc e j t g) := by
 simp only [cD, UJ]
 rw [if_pos ⟨rfl, by simp only [AC.lc, List.all_cons, List.all_nil, QI, QO, QZ, LD, Iq, Wa, Bool.and_self]⟩]
theorem Qp (e : AC) (j t g : Nat) : part none 3 (AC.lc e j t g) = some (.d (Enc.enc e.BenchBook.Pieces)) := rfl
theorem Og (e : AC) (j t g : Nat) : part (some 3) 0 (AC.lc e j t g) = some (.d (Enc.enc e.BenchBook.Voice)) := rfl
theorem KP (e : AC) (j t g : Nat) : part none 5 (AC.lc e j t g) = some (.mref j t g) := rfl
theorem MP {s : St} {t tm g gm : Nat} {e : AC} {es : List (List Int × (Sl Int))} (h : s.raw t = some (.box g (AC.lc e s.low.length tm gm))) (hm : s.raw tm = some (.mapo gm 2 (D4 es))) : VC s (t, some (some 6)) = some (.d (Enc.enc ((AC.mk e.BenchBook (Mp.mk es))))) := by
 simp only [St.raw] at h hm
 have hc : (AC.lc e s.low.length tm gm).map LV.copy = AC.lc e s.low.length tm gm := rfl
 have hl : (AC.lc e s.low.length tm gm).length = 6 := rfl
 have hn : LV.norm (.agg (AC.lc e s.low.length tm gm)) = .agg (AC.lc e s.low.length tm gm) := rfl
 simp only [VC, DW, h, hl, if_true, hc, hn, Option.bind_some]
 show (((AC.lc e s.low.length tm gm).mapM (freeze s.low.length s.env 8)).map fun cs => LV.norm (.agg cs)) = _
 simp only [AC.lc, List.mapM_cons, List.mapM_nil, pf, dE _ _ _ _ _ _ _ hm]
 rfl
def ps := And.intro @OL <| And.intro @QD <| And.intro @Mc <| And.intro @L6 <| And.intro @MQ <| And.intro @Ks <| And.intro @HW <| And.intro @LS <| And.intro @RZ <| And.intro @Jx <| And.intro @OU <| And.intro @Tf <| And.intro @en <| And.intro @ay <| And.intro @aR <| And.intro @YB <| And.intro @Zv <| And.intro @al <| And.intro @Zx <| And.intro @On <| And.intro @JO <| And.intro @ON <| And.intro @YQ <| And.intro @de <| And.intro @xz <| And.intro @mF <| And.intro @qi <| And.intro @WG <| And.intro @UK <| And.intro @aA <| And.intro @nf <| And.intro @UR <| And.intro @Xi <| And.intro @gG <| And.intro @Yb <| And.intro @Vn <| And.intro @nW <| And.intro @qo <| And.intro @ri <| And.intro @me <| And.intro @mY <| And.intro @nF <| And.intro @kU <| And.intro @mA <| And.intro @y2 <| And.intro @na <| And.intro @rh <| And.intro @jj <| And.intro @jz <| And.intro @i7 <| And.intro @iw <| And.intro @Xy <| And.intro @dm <| And.intro @kQ <| And.intro @jx <| And.intro @gX <| And.intro @XE <| And.intro @bU <| And.intro @fG <| And.intro @ZF <| And.intro @d6 <| And.intro @gh <| And.intro @dV <| And.intro @Xh <| And.intro @fJ <| And.intro @ZT <| And.intro @dX <| And.intro @da <| And.intro @XV <| And.intro @Z6 <| And.intro @bG <| And.intro @V3 <| And.intro @eR <| And.intro @eB <| And.intro @gw <| And.intro @Xz <| And.intro @vZ <| And.intro @wN <| And.intro @gx <| And.intro @f6 <| And.intro @gB <| And.intro @XI <| And.intro @lX <| And.intro @bT <| And.intro @kb <| And.intro @dZ <| And.intro @lg <| And.intro @ai <| And.intro @iy <| And.intro @kD <| And.intro @aU <| And.intro @lD <| And.intro @kO <| And.intro @a8 <| And.intro @lJ <| And.intro @i6 <| And.intro @iM <| And.intro @aL <| And.intro @ak <| And.intro @bP <| And.intro @Zy <| And.intro @af <| And.intro @aF <| And.intro @Vr <| And.intro @Vm <| And.intro @bJ <| And.intro @b8 <| And.intro @bv <| And.intro @V5 <| And.intro @bI <| And.intro @bf <| And.intro @V7 <| And.intro @bA <| And.intro @WC <| And.intro @aO <| And.intro @cA <| And.intro @aV <| And.intro @WL <| And.intro @UL <| And.intro @Xe <| And.intro @Yk <| And.intro @XM <| And.intro @Ws <| And.intro @Yp <| And.intro @XP <| And.intro @Tv <| And.intro @bg <| And.intro @Zu <| And.intro @be <| And.intro @bQ <| And.intro @Vs <| And.intro @V2 <| And.intro @Wp <| And.intro @Xt <| And.intro @Up <| And.intro @X0 <| And.intro @ZV <| And.intro @W8 <| And.intro @Zb <| And.intro @Yg <| And.intro @Xo trivial
section
variable {LP : BA} {ks : List ll} {J : Jmp → St → Prop} {s : St} {B : List Nat} {ops : List AI} {keep : List Nat} {low : List Fr} {l : Nat → I3}
theorem Ra (hl : s.low = low) (hf : NoB B s) (h' : ∀ c s', BG (l c) s' → s'.low = low → NoB B s' → Nx LP J s' 60 ks (.inl .normal)) (hB : ops.all (opB B) = true := by rfl)
 (h : ∀ c, kn keep (Lf.evalOps LP (om LP) c ops (s.atc c ops.length)) = some (l c, low) := by intro c; simp only [rt, ps, nob hf, *, reduceCtorEq, Nat.reduceEqDiff, Nat.reduceAdd, Nat.reduceMul] <;> rfl) : Run LP ks (.ops ops keep) s J := AAy hl hf hB h h'
theorem Rx (d : Nat → I3) (hl : s.low = low) (hf : NoB B s) (h' : ∀ c s', BG (l c) s' → s'.low = low → NoB B s' → Nx LP J s' 60 ks (.inl .normal)) (hB : ops.all (opB B) = true := by rfl)
 (h0 : ∀ c, lk (d c) keep s = some (l c) := by intro c; (first | simp only [j4, X5, Yw, Rh, S7, r, if_true, if_false, Nat.reduceEqDiff] | simp only [j4, X5, Yw, Rh, S7, *, if_true, if_false, Nat.reduceEqDiff]); all_goals rfl)
 (h : ∀ c, kn keep (Lf.evalOps LP (om LP) c ops (s.atc c ops.length)) = some (l c, low) := by intro c; repeat' (simp only [rt, ps, nob hf, *, reduceCtorEq, Nat.reduceEqDiff, Nat.reduceAdd, Nat.reduceMul] <;> first | refine gdN (fun _ => ?_) fun _ => ?_ | refine gd (fun _ => ?_) fun _ => ?_)) : Run LP ks (.ops ops keep) s J := AAy hl hf hB h h'
theorem Rq {α : Type} {o : Option α} {x : α} (d : Nat → I3) (hl : s.low = low) (hf : NoB B s) (q : o = some x) (h' : ∀ c s', BG (l c) s' → s'.low = low → NoB B s' → Nx LP J s' 60 ks (.inl .normal)) (hB : ops.all (opB B) = true := by rfl)
 (h0 : ∀ c, lk (d c) keep s = some (l c) := by intro c; (first | simp only [j4, X5, Yw, Rh, S7, r, if_true, if_false, Nat.reduceEqDiff] | simp only [j4, X5, Yw, Rh, S7, *, if_true, if_false, Nat.reduceEqDiff]); all_goals rfl)
 (h : ∀ c, kn keep (Lf.evalOps LP (om LP) c ops (s.atc c ops.length)) = some (l c, low) := by
  intro c; revert q; (repeat' (first | refine gb fun _ _ => ?_ | refine gi (fun _ => ?_) fun _ => ?_)); (all_goals (intro q; cases q)); all_goals (repeat' (simp only [rt, ps, nob hf, *, reduceCtorEq, Nat.reduceEqDiff, Nat.reduceAdd, Nat.reduceMul] <;> first | refine gdN (fun _ => ?_) fun _ => ?_ | refine gd (fun _ => ?_) fun _ => ?_))) : Run LP ks (.ops ops keep) s J := AAy hl hf hB h h'
end
end Go.Lf
