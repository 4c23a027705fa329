/- A part of the proof. -/
import Derived.Test.YtdjddljglkeefaaDoorx3
set_option linter.all false
namespace Go.Lf
open Go
structure Ew where
 Low : Int
 High : Int
 deriving DecidableEq
instance : Bm Ew := { n := 2, cells := fun x => [.int x.Low, .int x.High], enc := fun x => .agg [.int x.Low, .int x.High], law := fun _ => rfl, agg := fun _ => rfl, len := fun _ => rfl, ok := fun _ => rfl, key := fun x => [x.Low, x.High], hkey := fun _ => rfl }
structure AO where
 Low : Ew
 High : Ew
 Gain : Ew
 Turn : Ew
 Loss : Int
 Break : Ew
instance : Bm AO := { n := 11, cells := fun x => [.int x.Low.Low, .int x.Low.High, .int x.High.Low, .int x.High.High, .int x.Gain.Low, .int x.Gain.High, .int x.Turn.Low, .int x.Turn.High, .int x.Loss, .int x.Break.Low, .int x.Break.High], enc := fun x => .agg [.int x.Low.Low, .int x.Low.High, .int x.High.Low, .int x.High.High, .int x.Gain.Low, .int x.Gain.High, .int x.Turn.Low, .int x.Turn.High, .int x.Loss, .int x.Break.Low, .int x.Break.High], law := fun _ => rfl, agg := fun _ => rfl, len := fun _ => rfl, ok := fun _ => rfl, key := fun x => [x.Low.Low, x.Low.High, x.High.Low, x.High.High, x.Gain.Low, x.Gain.High, x.Turn.Low, x.Turn.High, x.Loss, x.Break.Low, x.Break.High], hkey := fun _ => rfl }
structure AM where
 Boy : Int
 Week : Int
 Note : Int
 Sang : Int
 deriving DecidableEq
instance : Bm AM := { n := 4, cells := fun x => [.int x.Boy, .int x.Week, .int x.Note, .int x.Sang], enc := fun x => .agg [.int x.Boy, .int x.Week, .int x.Note, .int x.Sang], law := fun _ => rfl, agg := fun _ => rfl, len := fun _ => rfl, ok := fun _ => rfl, key := fun x => [x.Boy, x.Week, x.Note, x.Sang], hkey := fun _ => rfl }
structure VoiceBook where
 Boys : (Sl AO)
 Weeks : Int
 Trials : (Sl AM)
instance : TA VoiceBook := { n := 3, cells := fun x => [zI.enc x.Boys, .int x.Weeks, zI.enc x.Trials], enc := fun x => .agg [zI.enc x.Boys, .int x.Weeks, zI.enc x.Trials], law := fun _ => rfl, agg := fun _ => rfl, len := fun _ => rfl, ok := fun x => by simp only [List.map_cons, List.map_nil, List.all_cons, List.all_nil, Ph, PQ, Pj, Ku, H7, Bool.and_self] }
structure Aj where
 Notes : Ew
 Many : Int
instance : Bm Aj := { n := 3, cells := fun x => [.int x.Notes.Low, .int x.Notes.High, .int x.Many], enc := fun x => .agg [.int x.Notes.Low, .int x.Notes.High, .int x.Many], law := fun _ => rfl, agg := fun _ => rfl, len := fun _ => rfl, ok := fun _ => rfl, key := fun x => [x.Notes.Low, x.Notes.High, x.Many], hkey := fun _ => rfl }
structure AE where
 Week : Int
 Parts : (Sl Aj)
instance : TA AE := { n := 2, cells := fun x => [.int x.Week, zI.enc x.Parts], enc := fun x => .agg [.int x.Week, zI.enc x.Parts], law := fun _ => rfl, agg := fun _ => rfl, len := fun _ => rfl, ok := fun x => by simp only [List.map_cons, List.map_nil, List.all_cons, List.all_nil, Ph, PQ, Pj, Ku, H7, Bool.and_self] }
structure BenchBook where
 Voice : VoiceBook
 Pieces : (Sl AE)
 Most : Int
instance : TA BenchBook := { n := 5, cells := fun x => [zI.enc x.Voice.Boys, .int x.Voice.Weeks, zI.enc x.Voice.Trials, zI.enc x.Pieces, .int x.Most], enc := fun x => .agg [zI.enc x.Voice.Boys, .int x.Voice.Weeks, zI.enc x.Voice.Trials, zI.enc x.Pieces, .int x.Most], law := fun _ => rfl, agg := fun _ => rfl, len := fun _ => rfl, ok := fun x => by simp only [List.map_cons, List.map_nil, List.all_cons, List.all_nil, Ph, PQ, Pj, Ku, H7, Bool.and_self] }
structure AB where
 Piece : Int
 Part : Int
 Boy : Int
 deriving DecidableEq
instance : Bm AB := { n := 3, cells := fun x => [.int x.Piece, .int x.Part, .int x.Boy], enc := fun x => .agg [.int x.Piece, .int x.Part, .int x.Boy], law := fun _ => rfl, agg := fun _ => rfl, len := fun _ => rfl, ok := fun _ => rfl, key := fun x => [x.Piece, x.Part, x.Boy], hkey := fun _ => rfl }
structure AL where
 piece : Int
 part : Int
 deriving DecidableEq
instance : Bm AL := { n := 2, cells := fun x => [.int x.piece, .int x.part], enc := fun x => .agg [.int x.piece, .int x.part], law := fun _ => rfl, agg := fun _ => rfl, len := fun _ => rfl, ok := fun _ => rfl, key := fun x => [x.piece, x.part], hkey := fun _ => rfl }
structure AC where
 BenchBook : BenchBook
 able : (Mp 2 (Sl Int))
instance : TA AC := { n := 6, cells := fun x => [zI.enc x.BenchBook.Voice.Boys, .int x.BenchBook.Voice.Weeks, zI.enc x.BenchBook.Voice.Trials, zI.enc x.BenchBook.Pieces, .int x.BenchBook.Most, zI.enc x.able], enc := fun x => .agg [zI.enc x.BenchBook.Voice.Boys, .int x.BenchBook.Voice.Weeks, zI.enc x.BenchBook.Voice.Trials, zI.enc x.BenchBook.Pieces, .int x.BenchBook.Most, zI.enc x.able], law := fun _ => rfl, agg := fun _ => rfl, len := fun _ => rfl, ok := fun x => by simp only [List.map_cons, List.map_nil, List.all_cons, List.all_nil, Ph, PQ, Pj, Ku, H7, Bool.and_self] }
structure Ad where
 boy : Int
 week : Int
 deriving DecidableEq
instance : Bm Ad := { n := 2, cells := fun x => [.int x.boy, .int x.week], enc := fun x => .agg [.int x.boy, .int x.week], law := fun _ => rfl, agg := fun _ => rfl, len := fun _ => rfl, ok := fun _ => rfl, key := fun x => [x.boy, x.week], hkey := fun _ => rfl }
structure AA where
 VoiceBook : VoiceBook
 truths : (Sl (Sl (Ar 5 Int)))
 whole : (Mp 2 (Sl (Ar 5 Int)))
instance : TA AA := { n := 5, cells := fun x => [zI.enc x.VoiceBook.Boys, .int x.VoiceBook.Weeks, zI.enc x.VoiceBook.Trials, zI.enc x.truths, zI.enc x.whole], enc := fun x => .agg [zI.enc x.VoiceBook.Boys, .int x.VoiceBook.Weeks, zI.enc x.VoiceBook.Trials, zI.enc x.truths, zI.enc x.whole], law := fun _ => rfl, agg := fun _ => rfl, len := fun _ => rfl, ok := fun x => by simp only [List.map_cons, List.map_nil, List.all_cons, List.all_nil, Ph, PQ, Pj, Ku, H7, Bool.and_self] }
structure Eb where
 out : Fv
instance : TA Eb := { n := 1, cells := fun x => [zI.enc x.out], enc := fun x => .agg [zI.enc x.out], law := fun _ => rfl, agg := fun _ => rfl, len := fun _ => rfl, ok := fun x => by simp only [List.map_cons, List.map_nil, List.all_cons, List.all_nil, Ph, PQ, Pj, Ku, H7, Bool.and_self] }
structure Ak where
 so : Int
 of_ : Int
 deriving DecidableEq
instance : Bm Ak := { n := 2, cells := fun x => [.int x.so, .int x.of_], enc := fun x => .agg [.int x.so, .int x.of_], law := fun _ => rfl, agg := fun _ => rfl, len := fun _ => rfl, ok := fun _ => rfl, key := fun x => [x.so, x.of_], hkey := fun _ => rfl }
structure AH where
 at_ : AL
 many : Int
 from_ : Int
instance : Bm AH := { n := 4, cells := fun x => [.int x.at_.piece, .int x.at_.part, .int x.many, .int x.from_], enc := fun x => .agg [.int x.at_.piece, .int x.at_.part, .int x.many, .int x.from_], law := fun _ => rfl, agg := fun _ => rfl, len := fun _ => rfl, ok := fun _ => rfl, key := fun x => [x.at_.piece, x.at_.part, x.many, x.from_], hkey := fun _ => rfl }
theorem jh : zI.n BenchBook = 5 := rfl
theorem Vv (x : BenchBook) : A4 (some 5) 0 (zI.cells x) = some (zI.enc x) := Bj x rfl
theorem WS (x : BenchBook) : A4 (some 3) 0 (zI.cells x) = some (zI.enc x.Voice) := rfl
theorem j3 : zI.n VoiceBook = 3 := rfl
theorem cc (x : VoiceBook) : A4 none 0 (zI.cells x) = some (zI.enc x.Boys) := rfl
theorem bK (x : VoiceBook) : A4 none 1 (zI.cells x) = some (.int x.Weeks) := rfl
theorem dF (x : VoiceBook) : A4 none 2 (zI.cells x) = some (zI.enc x.Trials) := rfl
theorem YF (x : AO) : A4 (some 11) 0 (zI.cells x) = some (zI.enc x) := Bj x rfl
theorem vv (g : Nat) : BM.box g [.d (.int 0), .d (.int 0), .d (.int 0), .d (.int 0), .d (.int 0), .d (.int 0), .d (.int 0), .d (.int 0), .d (.int 0), .d (.int 0), .d (.int 0)] = BM.box g ((zI.cells ((AO.mk (Ew.mk 0 0) (Ew.mk 0 0) (Ew.mk 0 0) (Ew.mk 0 0) 0 (Ew.mk 0 0)) : AO)).map LV.d) := rfl
theorem oW : zI.n AO = 11 := rfl
theorem ZU (x : AO) : A4 (some 2) 0 (zI.cells x) = some (zI.enc x.Low) := rfl
theorem wc : zI.n Ew = 2 := rfl
theorem sJ (x : Ew) : A4 none 0 (zI.cells x) = some (.int x.Low) := rfl
theorem sy (x : Ew) : A4 none 1 (zI.cells x) = some (.int x.High) := rfl
theorem Yz (x : AO) : A4 (some 2) 2 (zI.cells x) = some (zI.enc x.High) := rfl
theorem Yi (x : AO) : A4 (some 2) 4 (zI.cells x) = some (zI.enc x.Gain) := rfl
theorem ey (x : AO) : A4 none 8 (zI.cells x) = some (.int x.Loss) := rfl
theorem ZT (x : AO) : A4 (some 2) 6 (zI.cells x) = some (zI.enc x.Turn) := rfl
theorem YD (x : AO) : A4 (some 2) 9 (zI.cells x) = some (zI.enc x.Break) := rfl
theorem VB (x : AM) : A4 (some 4) 0 (zI.cells x) = some (zI.enc x) := Bj x rfl
theorem uT (g : Nat) : BM.box g [.d (.int 0), .d (.int 0), .d (.int 0), .d (.int 0)] = BM.box g ((zI.cells ((AM.mk 0 0 0 0) : AM)).map LV.d) := rfl
theorem eE : zI.n AM = 4 := rfl
theorem Wn (x : VoiceBook) : A4 (some 3) 0 (zI.cells x) = some (zI.enc x) := Bj x rfl
theorem YQ (x : AM) : A4 none 0 (zI.cells x) = some (.int x.Boy) := rfl
theorem Yh (x : AM) : A4 none 1 (zI.cells x) = some (.int x.Week) := rfl
theorem Y5 (x : AM) : A4 none 2 (zI.cells x) = some (.int x.Note) := rfl
theorem Y3 (x : AM) : A4 none 3 (zI.cells x) = some (.int x.Sang) := rfl
theorem ap (x : BenchBook) : A4 none 3 (zI.cells x) = some (zI.enc x.Pieces) := rfl
theorem bV (x : BenchBook) : A4 none 4 (zI.cells x) = some (.int x.Most) := rfl
theorem Un (x : AE) : A4 (some 2) 0 (zI.cells x) = some (zI.enc x) := Bj x rfl
theorem uI (g : Nat) : BM.box g [.d (.int 0), .d (.nils)] = BM.box g ((zI.cells ((AE.mk 0 (Sl.nil : (Sl Aj))) : AE)).map LV.d) := rfl
theorem gC : zI.n AE = 2 := rfl
theorem YZ (x : AE) : A4 none 0 (zI.cells x) = some (.int x.Week) := rfl
theorem b7 (x : BenchBook) : A4 none 1 (zI.cells x) = some (.int x.Voice.Weeks) := rfl
theorem Za (x : AE) : A4 none 1 (zI.cells x) = some (zI.enc x.Parts) := rfl
theorem XA (x : Aj) : A4 (some 3) 0 (zI.cells x) = some (zI.enc x) := Bj x rfl
theorem jD (g : Nat) : BM.box g [.d (.int 0), .d (.int 0), .d (.int 0)] = BM.box g ((zI.cells ((Aj.mk (Ew.mk 0 0) 0) : Aj)).map LV.d) := rfl
theorem jx : zI.n Aj = 3 := rfl
theorem cV (x : Aj) : A4 none 0 (zI.cells x) = some (.int x.Notes.Low) := rfl
theorem al (x : Aj) : A4 none 1 (zI.cells x) = some (.int x.Notes.High) := rfl
theorem bp (x : Aj) : A4 none 2 (zI.cells x) = some (.int x.Many) := rfl
theorem bT (x : BenchBook) : A4 none 0 (zI.cells x) = some (zI.enc x.Voice.Boys) := rfl
theorem dM (x : BenchBook) : A4 none 2 (zI.cells x) = some (zI.enc x.Voice.Trials) := rfl
theorem Xu (x : Aj) : A4 (some 2) 0 (zI.cells x) = some (zI.enc x.Notes) := rfl
theorem oJ  : Uz none [.int 0] 0 [] = some (Sl.lv (Sl.hot [] : Sl Int)) := rfl
theorem vX (a0 : Int) : Uz none [.int 0] 1 [(0, 1, .d (.int a0))] = some (Sl.lv (Sl.hot [a0] : Sl Int)) := rfl
theorem IW (g : Nat) : BM.box g [.d (.nils), .d (.int 0), .d (.nils), .d (.nils), .d (.int 0), .d (.nilmap)] = BM.box g ((zI.cells ((AC.mk (BenchBook.mk (VoiceBook.mk (Sl.nil : (Sl AO)) 0 (Sl.nil : (Sl AM))) (Sl.nil : (Sl AE)) 0) (Mp.nil : (Mp 2 (Sl Int)))) : AC)).map LV.d) := rfl
theorem OI (g : Nat) : BM.box g [.d (.nils), .d (.int 0), .d (.nils), .d (.nils), .d (.nilmap)] = BM.box g ((zI.cells ((AA.mk (VoiceBook.mk (Sl.nil : (Sl AO)) 0 (Sl.nil : (Sl AM))) (Sl.nil : (Sl (Sl (Ar 5 Int)))) (Mp.nil : (Mp 2 (Sl (Ar 5 Int))))) : AA)).map LV.d) := rfl
theorem fD : zI.n AA = 5 := rfl
theorem OF (a0 : Ew) (a1 : Ew) (a2 : Ew) (a3 : Ew) (a4 : Ew) : EU [.int 0, .int 0, .int 0, .int 0, .int 0, .int 0, .int 0, .int 0, .int 0, .int 0] [(0, 2, .d (zI.enc a0)), (2, 2, .d (zI.enc a1)), (4, 2, .d (zI.enc a2)), (6, 2, .d (zI.enc a3)), (8, 2, .d (zI.enc a4))] = some (.d (zI.enc (⟨[a0, a1, a2, a3, a4], rfl⟩ : (Ar 5 Ew)))) := rfl
theorem uv (g : Nat) : BM.box g [.d (.int 0), .d (.int 0), .d (.int 0), .d (.int 0), .d (.int 0), .d (.int 0), .d (.int 0), .d (.int 0), .d (.int 0), .d (.int 0)] = BM.box g ((zI.cells ((⟨List.replicate 5 (Ew.mk 0 0), rfl⟩ : (Ar 5 Ew)) : (Ar 5 Ew))).map LV.d) := rfl
theorem jJ : zI.n (Ar 5 Ew) = 10 := rfl
theorem oR : zI.n (Ar 5 Int) = 5 := rfl
theorem uS (g : Nat) : BM.box g [.d (.int 0), .d (.int 0)] = BM.box g ((zI.cells ((Ew.mk 0 0) : Ew)).map LV.d) := rfl
theorem YL (x : (Ar 5 Int)) : A4 (some 5) 0 (zI.cells x) = some (zI.enc x) := Bj x rfl
theorem vh (g : Nat) : BM.box g [.d (.int 0), .d (.int 0), .d (.int 0), .d (.int 0), .d (.int 0)] = BM.box g ((zI.cells ((⟨List.replicate 5 0, rfl⟩ : (Ar 5 Int)) : (Ar 5 Int))).map LV.d) := rfl
theorem bQ (a0 : (Ar 5 Int)) : Uz (some 5) [.int 0, .int 0, .int 0, .int 0, .int 0] 1 [(0, 5, .d (zI.enc a0))] = some (Sl.lv (Sl.hot [a0] : Sl (Ar 5 Int))) := H6 [a0] rfl rfl
theorem KD (a0 : Int) (a1 : Int) : EU [.int 0, .int 0] [(0, 1, .d (.int a0)), (1, 1, .d (.int a1))] = some (.d (zI.enc (Ad.mk a0 a1))) := rfl
theorem iP (g : Nat) : BM.box g [.d (.int 0), .d (.int 0)] = BM.box g ((zI.cells ((Ad.mk 0 0) : Ad)).map LV.d) := rfl
theorem hQ : zI.n Ad = 2 := rfl
theorem U1 (x : Ad) : A4 (some 2) 0 (zI.cells x) = some (zI.enc x) := Bj x rfl
theorem S5 (a0 : (Sl (Ar 5 Int))) : Uz none [.nils] 1 [(0, 1, Sl.lv (Sl.spent a0))] = some (Sl.lv (Sl.hot [a0] : Sl (Sl (Ar 5 Int)))) := by cases a0 <;> rfl
theorem YI (x : AA) : A4 none 3 (zI.cells x) = some (zI.enc x.truths) := rfl
theorem V9 (g : Nat) : BM.box g [.d (.nilfn)] = BM.box g ((zI.cells ((Eb.mk Fv.nil) : Eb)).map LV.d) := rfl
theorem IJ  : EU [.nilfn] [(0, 1, .d (.fn 82 [] []))] = some (.d (zI.enc (Eb.mk (Fv.mk 82 [] [])))) := rfl
theorem XI : zI.n Eb = 1 := rfl
theorem dx : zI.n AC = 6 := rfl
theorem FC (a0 : Int) (a1 : Int) : EU [.int 0, .int 0] [(0, 1, .d (.int a0)), (1, 1, .d (.int a1))] = some (.d (zI.enc (AL.mk a0 a1))) := rfl
theorem uG (g : Nat) : BM.box g [.d (.int 0), .d (.int 0)] = BM.box g ((zI.cells ((AL.mk 0 0) : AL)).map LV.d) := rfl
theorem eb : zI.n AL = 2 := rfl
theorem Um (x : AL) : A4 (some 2) 0 (zI.cells x) = some (zI.enc x) := Bj x rfl
theorem Y0 (x : AL) : A4 none 0 (zI.cells x) = some (.int x.piece) := rfl
theorem ZL (x : AL) : A4 none 1 (zI.cells x) = some (.int x.part) := rfl
theorem U8 (x : AA) : A4 (some 5) 0 (zI.cells x) = some (zI.enc x) := Bj x rfl
theorem SQ  : EU [.nils, .int 0, .nils, .nils, .nilmap] [] = some (.d (zI.enc (AA.mk (VoiceBook.mk (Sl.nil : (Sl AO)) 0 (Sl.nil : (Sl AM))) (Sl.nil : (Sl (Sl (Ar 5 Int)))) (Mp.nil : (Mp 2 (Sl (Ar 5 Int))))))) := rfl
theorem am (g : Nat) : BM.box g [.d (.int 0), .d (.int 0)] = BM.box g ((zI.cells ((Ak.mk 0 0) : Ak)).map LV.d) := rfl
theorem VC (a1 : Int) : EU [.int 0, .int 0] [(1, 1, .d (.int a1))] = some (.d (zI.enc (Ak.mk 0 a1))) := rfl
theorem dR : zI.n Ak = 2 := rfl
theorem ZH (x : AA) : A4 none 4 (zI.cells x) = some (zI.enc x.whole) := rfl
theorem YM (x : AA) : A4 none 0 (zI.cells x) = some (zI.enc x.VoiceBook.Boys) := rfl
theorem Xk (x : Ak) : A4 none 0 (zI.cells x) = some (.int x.so) := rfl
theorem Wi (x : Ak) (v : Int) : Dx 1 0 ([.d (.int v)]) ((zI.cells x).map LV.d) = some ((zI.cells (Ak.mk v x.of_)).map LV.d) := rfl
theorem TD (x : Ak) : A4 (some 2) 0 (zI.cells x) = some (zI.enc x) := Bj x rfl
theorem XW (x : Ak) : A4 none 1 (zI.cells x) = some (.int x.of_) := rfl
theorem MK  : EU [.nils, .int 0, .nils, .nils, .int 0, .nilmap] [] = some (.d (zI.enc (AC.mk (BenchBook.mk (VoiceBook.mk (Sl.nil : (Sl AO)) 0 (Sl.nil : (Sl AM))) (Sl.nil : (Sl AE)) 0) (Mp.nil : (Mp 2 (Sl Int)))))) := rfl
theorem VK (x : AC) : A4 (some 6) 0 (zI.cells x) = some (zI.enc x) := Bj x rfl
theorem Y4 (x : AC) : A4 none 3 (zI.cells x) = some (zI.enc x.BenchBook.Pieces) := rfl
theorem Jd (a0 : AL) (a1 : Int) : EU [.int 0, .int 0, .int 0, .int 0] [(0, 2, .d (zI.enc a0)), (2, 1, .d (.int a1)), (3, 1, .d (.int 0))] = some (.d (zI.enc (AH.mk a0 a1 0))) := rfl
theorem X1 (a0 : AH) : Uz (some 4) [.int 0, .int 0, .int 0, .int 0] 1 [(0, 4, .d (zI.enc a0))] = some (Sl.lv (Sl.hot [a0] : Sl AH)) := H6 [a0] rfl rfl
theorem X8 (g : Nat) : BM.box g [.d (.int 0), .d (.int 0), .d (.int 0), .d (.int 0), .d (.int 0), .d (.int 0), .d (.int 0), .d (.int 0), .d (.int 0), .d (.int 0), .d (.int 0), .d (.int 0), .d (.int 0), .d (.int 0), .d (.int 0), .d (.int 0), .d (.int 0), .d (.int 0), .d (.int 0), .d (.int 0), .d (.int 0), .d (.int 0), .d (.int 0), .d (.int 0)] = BM.box g ((zI.cells ((⟨List.replicate 24 0, rfl⟩ : (Ar 24 Int)) : (Ar 24 Int))).map LV.d) := rfl
theorem Vm (x : (Ar 24 Int)) : A4 (some 24) 0 (zI.cells x) = some (zI.enc x) := Bj x rfl
theorem i9 : zI.n (Ar 24 Int) = 24 := rfl
theorem ZZ (x : AH) : A4 none 2 (zI.cells x) = some (.int x.many) := rfl
theorem U9 (x : AH) : A4 (some 4) 0 (zI.cells x) = some (zI.enc x) := Bj x rfl
theorem tp (g : Nat) : BM.box g [.d (.int 0), .d (.int 0), .d (.int 0), .d (.int 0)] = BM.box g ((zI.cells ((AH.mk (AL.mk 0 0) 0 0) : AH)).map LV.d) := rfl
theorem dZ : zI.n AH = 4 := rfl
theorem ZI (x : AC) : A4 none 5 (zI.cells x) = some (zI.enc x.able) := rfl
theorem U2 (x : AH) : A4 (some 2) 0 (zI.cells x) = some (zI.enc x.at_) := rfl
theorem Yg (x : AH) : A4 none 3 (zI.cells x) = some (.int x.from_) := rfl
theorem ZO (x : AH) : A4 none 0 (zI.cells x) = some (.int x.at_.piece) := rfl
theorem Xc (x : AB) : A4 (some 3) 0 (zI.cells x) = some (zI.enc x) := Bj x rfl
theorem jb : zI.n AB = 3 := rfl
theorem bi (x : AB) : A4 none 0 (zI.cells x) = some (.int x.Piece) := rfl
theorem cQ (x : AB) : A4 none 2 (zI.cells x) = some (.int x.Boy) := rfl
theorem ZS (x : AC) : A4 none 4 (zI.cells x) = some (.int x.BenchBook.Most) := rfl
theorem OM (a0 : AL) (a1 : Int) (a2 : Int) : EU [.int 0, .int 0, .int 0, .int 0] [(0, 2, .d (zI.enc a0)), (2, 1, .d (.int a1)), (3, 1, .d (.int a2))] = some (.d (zI.enc (AH.mk a0 a1 a2))) := rfl
theorem Ym (x : AH) : A4 none 1 (zI.cells x) = some (.int x.at_.part) := rfl
theorem Iy (a0 : Int) (a1 : Int) (a2 : Int) : EU [.int 0, .int 0, .int 0] [(0, 1, .d (.int a0)), (1, 1, .d (.int a1)), (2, 1, .d (.int a2))] = some (.d (zI.enc (AB.mk a0 a1 a2))) := rfl
theorem Yw (a0 : AB) : Uz (some 3) [.int 0, .int 0, .int 0] 1 [(0, 3, .d (zI.enc a0))] = some (Sl.lv (Sl.hot [a0] : Sl AB)) := H6 [a0] rfl rfl
theorem nH (a0 : (Sl Int)) : Uz none [.nils] 1 [(0, 1, .d (zI.enc a0))] = some (Sl.lv (Sl.hot [a0] : Sl (Sl Int))) := by cases a0 <;> rfl
theorem W9 (a0 : (Sl (Sl Int))) : Uz none [.nils] 1 [(0, 1, Sl.lv (Sl.spent a0))] = some (Sl.lv (Sl.hot [a0] : Sl (Sl (Sl Int)))) := by cases a0 <;> rfl
theorem U7 (g : Nat) : BM.box g [.d (.int 0), .d (.int 0), .d (.int 0), .d (.int 0), .d (.int 0), .d (.int 0), .d (.int 0), .d (.int 0), .d (.int 0), .d (.int 0), .d (.int 0), .d (.int 0), .d (.int 0), .d (.int 0), .d (.int 0), .d (.int 0), .d (.int 0), .d (.int 0), .d (.int 0), .d (.int 0), .d (.int 0), .d (.int 0), .d (.int 0), .d (.int 0)] = BM.box g ((zI.cells ((⟨List.replicate 6 (⟨List.replicate 4 0, rfl⟩ : (Ar 4 Int)), rfl⟩ : (Ar 6 (Ar 4 Int))) : (Ar 6 (Ar 4 Int)))).map LV.d) := rfl
theorem bE (x : AB) : A4 none 1 (zI.cells x) = some (.int x.Part) := rfl
theorem MJ (g : Nat) : BM.box g [.d (.nils), .d (.int 0), .d (.nils), .d (.nils), .d (.int 0)] = BM.box g ((zI.cells ((BenchBook.mk (VoiceBook.mk (Sl.nil : (Sl AO)) 0 (Sl.nil : (Sl AM))) (Sl.nil : (Sl AE)) 0) : BenchBook)).map LV.d) := rfl
theorem ip (g : Nat) : BM.box g [.d (.nils), .d (.int 0), .d (.nils)] = BM.box g ((zI.cells ((VoiceBook.mk (Sl.nil : (Sl AO)) 0 (Sl.nil : (Sl AM))) : VoiceBook)).map LV.d) := rfl
theorem UG (a0 : Int) (a1 : Int) : EU [.int 0, .int 0] [(0, 1, .d (.int a0)), (1, 1, .d (.int a1))] = some (.d (zI.enc (Ew.mk a0 a1))) := rfl
theorem Gs (a0 : Ew) (a1 : Ew) (a2 : Ew) (a3 : Ew) (a5 : Ew) : EU [.int 0, .int 0, .int 0, .int 0, .int 0, .int 0, .int 0, .int 0, .int 0, .int 0, .int 0] [(0, 2, .d (zI.enc a0)), (2, 2, .d (zI.enc a1)), (4, 2, .d (zI.enc a2)), (6, 2, .d (zI.enc a3)), (8, 1, .d (.int 1)), (9, 2, .d (zI.enc a5))] = some (.d (zI.enc (AO.mk a0 a1 a2 a3 1 a5))) := rfl
theorem Ko (a0 : Ew) (a1 : Ew) (a2 : Ew) (a3 : Ew) (a5 : Ew) : EU [.int 0, .int 0, .int 0, .int 0, .int 0, .int 0, .int 0, .int 0, .int 0, .int 0, .int 0] [(0, 2, .d (zI.enc a0)), (2, 2, .d (zI.enc a1)), (4, 2, .d (zI.enc a2)), (6, 2, .d (zI.enc a3)), (9, 2, .d (zI.enc a5))] = some (.d (zI.enc (AO.mk a0 a1 a2 a3 0 a5))) := rfl
theorem cn (a0 : AO) (a1 : AO) : Uz (some 11) [.int 0, .int 0, .int 0, .int 0, .int 0, .int 0, .int 0, .int 0, .int 0, .int 0, .int 0] 2 [(0, 11, .d (zI.enc a0)), (11, 11, .d (zI.enc a1))] = some (Sl.lv (Sl.hot [a0, a1] : Sl AO)) := H6 [a0, a1] rfl rfl
theorem Jy (a0 : (Sl AO)) (a2 : (Sl AM)) : EU [.nils, .int 0, .nils] [(0, 1, .d (zI.enc a0)), (1, 1, .d (.int 4)), (2, 1, .d (zI.enc a2))] = some (.d (zI.enc (VoiceBook.mk a0 4 a2))) := by cases a0 <;> cases a2 <;> rfl
theorem MQ (a0 : Ew) : EU [.int 0, .int 0, .int 0] [(0, 2, .d (zI.enc a0)), (2, 1, .d (.int 1))] = some (.d (zI.enc (Aj.mk a0 1))) := rfl
theorem YW (a0 : Aj) (a1 : Aj) : Uz (some 3) [.int 0, .int 0, .int 0] 2 [(0, 3, .d (zI.enc a0)), (3, 3, .d (zI.enc a1))] = some (Sl.lv (Sl.hot [a0, a1] : Sl Aj)) := H6 [a0, a1] rfl rfl
theorem K1 (a1 : (Sl Aj)) : EU [.int 0, .nils] [(0, 1, .d (.int 0)), (1, 1, .d (zI.enc a1))] = some (.d (zI.enc (AE.mk 0 a1))) := by cases a1 <;> rfl
theorem YP (a0 : Aj) : Uz (some 3) [.int 0, .int 0, .int 0] 1 [(0, 3, .d (zI.enc a0))] = some (Sl.lv (Sl.hot [a0] : Sl Aj)) := H6 [a0] rfl rfl
theorem K2 (a1 : (Sl Aj)) : EU [.int 0, .nils] [(0, 1, .d (.int 3)), (1, 1, .d (zI.enc a1))] = some (.d (zI.enc (AE.mk 3 a1))) := by cases a1 <;> rfl
theorem Ww (a0 : AE) (a1 : AE) (a2 : AE) : Uz (some 2) [.int 0, .nils] 3 [(0, 2, .d (zI.enc a0)), (2, 2, .d (zI.enc a1)), (4, 2, .d (zI.enc a2))] = some (Sl.lv (Sl.hot [a0, a1, a2] : Sl AE)) := H6 [a0, a1, a2] rfl rfl
theorem PL (a0 : VoiceBook) (a1 : (Sl AE)) (a2 : Int) : EU [.nils, .int 0, .nils, .nils, .int 0] [(0, 3, .d (zI.enc a0)), (3, 1, .d (zI.enc a1)), (4, 1, .d (.int a2))] = some (.d (zI.enc (BenchBook.mk a0 a1 a2))) := by cases a1 <;> rfl
theorem OC  : Uz none [.int 0] 2 [(0, 1, .d (.int 0)), (1, 1, .d (.int 2))] = some (Sl.lv (Sl.hot [0, 2] : Sl Int)) := rfl
theorem jl (g : Nat) : BM.box g [.d (.int 0), .d (.int 0), .d (.int 0)] = BM.box g ((zI.cells ((AB.mk 0 0 0) : AB)).map LV.d) := rfl
theorem Y7 (a0 : AB) (a1 : AB) (a2 : AB) : Uz (some 3) [.int 0, .int 0, .int 0] 3 [(0, 3, .d (zI.enc a0)), (3, 3, .d (zI.enc a1)), (6, 3, .d (zI.enc a2))] = some (Sl.lv (Sl.hot [a0, a1, a2] : Sl AB)) := H6 [a0, a1, a2] rfl rfl
theorem Of  : Uz none [.int 0] 2 [(0, 1, .d (.int 0)), (1, 1, .d (.int 1))] = some (Sl.lv (Sl.hot [0, 1] : Sl Int)) := rfl
theorem bB  : Uz none [.int 0] 1 [(0, 1, .d (.int 1))] = some (Sl.lv (Sl.hot [1] : Sl Int)) := rfl
theorem YU (a0 : AB) (a1 : AB) (a2 : AB) (a3 : AB) : Uz (some 3) [.int 0, .int 0, .int 0] 4 [(0, 3, .d (zI.enc a0)), (3, 3, .d (zI.enc a1)), (6, 3, .d (zI.enc a2)), (9, 3, .d (zI.enc a3))] = some (Sl.lv (Sl.hot [a0, a1, a2, a3] : Sl AB)) := H6 [a0, a1, a2, a3] rfl rfl
theorem Sv (x : BenchBook) : Dx 1 2 [.d .nils] ((zI.cells x).map LV.d) = some ((zI.cells (BenchBook.mk (VoiceBook.mk x.Voice.Boys x.Voice.Weeks (Sl.nil : (Sl AM))) x.Pieces x.Most)).map LV.d) := rfl
theorem Uo  : Uz (some 3) [.int 0, .int 0, .int 0] 0 [] = some (Sl.lv (Sl.hot [] : Sl AB)) := rfl
theorem iZ (a0 : Int) (a1 : Int) (a2 : Int) : Uz none [.int 0] 3 [(0, 1, .d (.int a0)), (1, 1, .d (.int a1)), (2, 1, .d (.int a2))] = some (Sl.lv (Sl.hot [a0, a1, a2] : Sl Int)) := rfl
theorem Vn (a0 : AE) : Uz (some 2) [.int 0, .nils] 1 [(0, 2, .d (zI.enc a0))] = some (Sl.lv (Sl.hot [a0] : Sl AE)) := H6 [a0] rfl rfl
theorem Qo (a0 : Int) (a1 : (Sl Aj)) : EU [.int 0, .nils] [(0, 1, .d (.int a0)), (1, 1, .d (zI.enc a1))] = some (.d (zI.enc (AE.mk a0 a1))) := by cases a1 <;> rfl
def AA.lc (e : AA) (j t g : Nat) : List LV := [.d (zI.enc e.VoiceBook.Boys), .d (.int e.VoiceBook.Weeks), .d (zI.enc e.VoiceBook.Trials), .d (zI.enc e.truths), .mref j t g]
def AC.lc (e : AC) (j t g : Nat) : List LV := [.d (zI.enc e.BenchBook.Voice.Boys), .d (.int e.BenchBook.Voice.Weeks), .d (zI.enc e.BenchBook.Voice.Trials), .d (zI.enc e.BenchBook.Pieces), .d (.int e.BenchBook.Most), .mref j t g]
def AV (e : AA) (j t g : Nat) : List LV := [.d (zI.enc e.VoiceBook.Boys), .d (.int e.VoiceBook.Weeks), .d (zI.enc e.VoiceBook.Trials), Sl.lv (Sl.unf e.truths), .mref j t g]
def IC (e : BenchBook) : List LV := [.d (zI.enc e.Voice.Boys), .d (.int e.Voice.Weeks), .d (zI.enc e.Voice.Trials), Sl.lv (Sl.unf e.Pieces), .d (.int e.Most)]
theorem RP (a0 : VoiceBook) (j t g : Nat) : EU [.nils, .int 0, .nils, .nils, .nilmap] [(0, 3, .d (zI.enc a0)), (4, 1, .mref j t g)] = some (.agg (AA.lc (AA.mk a0 (Sl.nil : (Sl (Sl (Ar 5 Int)))) (Mp.nil : (Mp 2 (Sl (Ar 5 Int))))) j t g)) := rfl
theorem LN (e : AA) (j t g : Nat) (cs : List LV) (h : cs.length = 5) : Dx 5 0 (AA.lc e j t g) cs = some (AA.lc e j t g) := UJ h rfl (by simp only [AA.lc, List.all_cons, List.all_nil, Ph, PQ, Pj, Ku, H7, VU, Bool.and_self])
theorem Bq (e : AA) (j t g : Nat) : part (some 5) 0 (AA.lc e j t g) = some (.agg (AA.lc e j t g)) := rfl
theorem Ff (e : AA) (j t g : Nat) : Zl 5 (.agg (AA.lc e j t g)) = some (AA.lc e j t g) := by
 simp only [Zl, Su]
 rw [if_pos ⟨rfl, by simp only [AA.lc, List.all_cons, List.all_nil, Ph, PQ, Pj, Ku, H7, VU, Bool.and_self]⟩]
theorem TT (e : AA) (j t g : Nat) : part (some 5) 0 (AA.lc e j t g) = some (.agg (AA.lc e j t g)) := rfl
theorem Qr (e : AA) (j t g : Nat) (r : List LV) : AZ (.agg (AA.lc e j t g) :: r) = none := rfl
theorem XM (e : AA) (j t g : Nat) : part none 0 (AA.lc e j t g) = some (.d (zI.enc e.VoiceBook.Boys)) := rfl
theorem Qe (e : AA) (j t g : Nat) : part none 2 (AA.lc e j t g) = some (.d (zI.enc e.VoiceBook.Trials)) := rfl
theorem QH (e : AA) (j t g : Nat) : part none 0 (AA.lc e j t g) = some (.d (zI.enc e.VoiceBook.Boys)) := rfl
theorem jq (e : AA) (j t g : Nat) : part none 4 (AA.lc e j t g) = some (.mref j t g) := rfl
theorem kU {e : AA} {j t g : Nat} {v : (Sl (Sl (Ar 5 Int)))} (h : v.lv = v.unf.lv) : Dx 1 3 [v.lv] (AA.lc e j t g) = some (AV (AA.mk e.VoiceBook v e.whole) j t g) := by
 cases v <;> first | rfl | (cases h)
theorem Gp (e : AA) (j t g : Nat) : part (some 5) 0 (AV e j t g) = some (.agg (AA.lc e j t g)) := by
 cases h0 : e.truths <;> first | rfl | (simp only [AA.lc, AV, h0]; rfl) | (simp only [AA.lc, AV, h0])
theorem NP (e : AA) (j t g : Nat) : part none 4 (AV e j t g) = some (.mref j t g) := rfl
theorem Ns (e : AA) (j t g : Nat) : List.set (AV e j t g) 3 (.d (zI.enc e.truths)) = (AV (AA.mk e.VoiceBook e.truths.cool e.whole) j t g) := by
 cases h0 : e.truths <;> first | rfl | (simp only [AA.lc, AV, h0]; rfl) | (simp only [AA.lc, AV, h0])
theorem OT {e : AA} {j t g : Nat} {v : (Sl (Sl (Ar 5 Int)))} (h : v.lv = v.unf.lv) : Dx 1 3 [v.lv] (AV e j t g) = some (AV (AA.mk e.VoiceBook v e.whole) j t g) := by
 cases v <;> first | rfl | (cases h)
theorem S1 {s : St} {t tm g gm : Nat} {e : AA} {es : List (List Int × (Sl (Ar 5 Int)))} (h : s.raw t = some (.box g (AA.lc e s.low.length tm gm))) (hm : s.raw tm = some (.mapo gm 2 (Dj es))) : T9 s (t, some (some 5)) = some (.d (zI.enc ((AA.mk e.VoiceBook e.truths (Mp.mk es))))) := by
 simp only [St.raw] at h hm
 have hc : (AA.lc e s.low.length tm gm).map LV.copy = AA.lc e s.low.length tm gm := rfl
 have hl : (AA.lc e s.low.length tm gm).length = 5 := rfl
 have hn : LV.norm (.agg (AA.lc e s.low.length tm gm)) = .agg (AA.lc e s.low.length tm gm) := rfl
 simp only [T9, DG, h, hl, if_true, hc, hn, Option.bind_some]
 show (((AA.lc e s.low.length tm gm).mapM (freeze s.low.length s.env 8)).map fun cs => LV.norm (.agg cs)) = _
 simp only [AA.lc, List.mapM_cons, List.mapM_nil, mR, aY _ _ _ _ _ _ _ hm]
 rfl
theorem Rk (e : AA) (j t g : Nat) : (AA.lc e j t g) = (AV (AA.mk e.VoiceBook e.truths.cool e.whole) j t g) := by
 cases h0 : e.truths <;> first | rfl | (simp only [AA.lc, AV, h0]; rfl) | (simp only [AA.lc, AV, h0])
theorem RD (a0 : BenchBook) (j t g : Nat) : EU [.nils, .int 0, .nils, .nils, .int 0, .nilmap] [(0, 5, .d (zI.enc a0)), (5, 1, .mref j t g)] = some (.agg (AC.lc (AC.mk a0 (Mp.nil : (Mp 2 (Sl Int)))) j t g)) := rfl
theorem Fb (e : AC) (j t g : Nat) (cs : List LV) (h : cs.length = 6) : Dx 6 0 (AC.lc e j t g) cs = some (AC.lc e j t g) := UJ h rfl (by simp only [AC.lc, List.all_cons, List.all_nil, Ph, PQ, Pj, Ku, H7, VU, Bool.and_self])
theorem Ds (e : AC) (j t g : Nat) : part (some 6) 0 (AC.lc e j t g) = some (.agg (AC.lc e j t g)) := rfl
theorem J5 (e : AC) (j t g : Nat) (r : List LV) : AZ (.agg (AC.lc e j t g) :: r) = none := rfl
theorem Tc (e : AC) (j t g : Nat) : Zl 6 (.agg (AC.lc e j t g)) = some (AC.lc e j t g) := by
 simp only [Zl, Su]
 rw [if_pos ⟨rfl, by simp only [AC.lc, List.all_cons, List.all_nil, Ph, PQ, Pj, Ku, H7, VU, Bool.and_self]⟩]
theorem Qc (e : AC) (j t g : Nat) : part none 3 (AC.lc e j t g) = some (.d (zI.enc e.BenchBook.Pieces)) := rfl
theorem OY (e : AC) (j t g : Nat) : part (some 3) 0 (AC.lc e j t g) = some (.d (zI.enc e.BenchBook.Voice)) := rfl
theorem JJ (e : AC) (j t g : Nat) : part none 5 (AC.lc e j t g) = some (.mref j t g) := rfl
theorem LE {s : St} {t tm g gm : Nat} {e : AC} {es : List (List Int × (Sl Int))} (h : s.raw t = some (.box g (AC.lc e s.low.length tm gm))) (hm : s.raw tm = some (.mapo gm 2 (Dj es))) : T9 s (t, some (some 6)) = some (.d (zI.enc ((AC.mk e.BenchBook (Mp.mk es))))) := by
 simp only [St.raw] at h hm
 have hc : (AC.lc e s.low.length tm gm).map LV.copy = AC.lc e s.low.length tm gm := rfl
 have hl : (AC.lc e s.low.length tm gm).length = 6 := rfl
 have hn : LV.norm (.agg (AC.lc e s.low.length tm gm)) = .agg (AC.lc e s.low.length tm gm) := rfl
 simp only [T9, DG, h, hl, if_true, hc, hn, Option.bind_some]
 show (((AC.lc e s.low.length tm gm).mapM (freeze s.low.length s.env 8)).map fun cs => LV.norm (.agg cs)) = _
 simp only [AC.lc, List.mapM_cons, List.mapM_nil, mR, aY _ _ _ _ _ _ _ hm]
 rfl
theorem Tn {e : BenchBook} {v : (Sl AE)} (h : v.lv = v.unf.lv) : Dx 1 3 [v.lv] ((zI.cells e).map LV.d) = some (IC (BenchBook.mk e.Voice v e.Most)) := by
 cases v <;> first | rfl | (cases h)
theorem HM (e : BenchBook) : part (some 5) 0 (IC e) = some (.d (zI.enc e)) := by
 obtain ⟨_, z, _⟩ := e
 cases z <;> rfl
theorem PN {e : BenchBook} {v : (Sl AE)} (h : v.lv = v.unf.lv) : Dx 1 3 [v.lv] (IC e) = some (IC (BenchBook.mk e.Voice v e.Most)) := by
 cases v <;> first | rfl | (cases h)
def ps := And.intro @Bool.true_beq <| And.intro @Bool.false_beq <| And.intro @Bool.true_bne <| And.intro @Bool.false_bne <| And.intro @beq_true <| And.intro @beq_false <| And.intro @Bool.bne_true <| And.intro @Bool.bne_false <| And.intro @OF <| And.intro @PL <| And.intro @MQ <| And.intro @K1 <| And.intro @K2 <| And.intro @Qo <| And.intro @Jy <| And.intro @Gs <| And.intro @Ko <| And.intro @RD <| And.intro @Jd <| And.intro @OM <| And.intro @RP <| And.intro @bQ <| And.intro @YP <| And.intro @YW <| And.intro @Vn <| And.intro @Ww <| And.intro @Yw <| And.intro @Y7 <| And.intro @YU <| And.intro @Of <| And.intro @OC <| And.intro @bB <| And.intro @vX <| And.intro @iZ <| And.intro @oJ <| And.intro @nH <| And.intro @S5 <| And.intro @W9 <| And.intro @cn <| And.intro @X1 <| And.intro @i9 <| And.intro @oR <| And.intro @jJ <| And.intro @jh <| And.intro @jx <| And.intro @gC <| And.intro @jb <| And.intro @wc <| And.intro @j3 <| And.intro @oW <| And.intro @eE <| And.intro @dx <| And.intro @eb <| And.intro @dZ <| And.intro @XI <| And.intro @fD <| And.intro @hQ <| And.intro @dR <| And.intro @Vm <| And.intro @YL <| And.intro @bT <| And.intro @WS <| And.intro @b7 <| And.intro @dM <| And.intro @ap <| And.intro @bV <| And.intro @Vv <| And.intro @cV <| And.intro @Xu <| And.intro @al <| And.intro @bp <| And.intro @XA <| And.intro @YZ <| And.intro @Za <| And.intro @Un <| And.intro @bi <| And.intro @bE <| And.intro @cQ <| And.intro @Xc <| And.intro @sJ <| And.intro @sy <| And.intro @cc <| And.intro @bK <| And.intro @dF <| And.intro @Wn <| And.intro @ZU <| And.intro @Yz <| And.intro @Yi <| And.intro @ZT <| And.intro @ey <| And.intro @YD <| And.intro @YF <| And.intro @YQ <| And.intro @Yh <| And.intro @Y5 <| And.intro @Y3 <| And.intro @VB <| And.intro @Y4 <| And.intro @ZS <| And.intro @ZI <| And.intro @VK <| And.intro @Y0 <| And.intro @ZL <| And.intro @Um <| And.intro @ZO <| And.intro @U2 <| And.intro @Ym <| And.intro @ZZ <| And.intro @Yg <| And.intro @U9 <| And.intro @YM <| And.intro @YI <| And.intro @ZH <| And.intro @U8 <| And.intro @U1 <| And.intro @Xk <| And.intro @XW <| And.intro @TD <| And.intro @Sv <| And.intro @Wi trivial
section
variable {LP : BA} {ks : List iW} {J : zR → St → Prop} {s : St} {B : List Nat} {ops : List AG} {keep : List Nat} {low : List Fr} {l : Nat → IX}
theorem Ra (hl : s.low = low) (hf : NoB B s) (h' : ∀ c s', B6 (l c) s' → s'.low = low → NoB B s' → Nx LP J s' 60 ks (.inl .normal)) (hB : ops.all (za B) = true := by rfl)
 (h : ∀ c, kn keep (Lf.evalOps LP (om LP) c ops (s.atc c ops.length)) = some (l c, low) := by intro c; simp only [rt, ps, nob hf, *, reduceCtorEq, Nat.reduceEqDiff, Nat.reduceAdd, Nat.reduceMul] <;> rfl) : Run LP ks (.ops ops keep) s J := xq hl hf hB h h'
theorem Rx (d : Nat → IX) (hl : s.low = low) (hf : NoB B s) (h' : ∀ c s', B6 (l c) s' → s'.low = low → NoB B s' → Nx LP J s' 60 ks (.inl .normal)) (hB : ops.all (za B) = true := by rfl)
 (h0 : ∀ c, lk (d c) keep s = some (l c) := by intro c; (first | simp only [eq, Xb, Xo, R7, Re, r, if_true, if_false, Nat.reduceEqDiff] | simp only [eq, Xb, Xo, R7, Re, *, if_true, if_false, Nat.reduceEqDiff]); all_goals rfl)
 (h : ∀ c, kn keep (Lf.evalOps LP (om LP) c ops (s.atc c ops.length)) = some (l c, low) := by intro c; repeat' (simp only [rt, ps, nob hf, *, reduceCtorEq, Nat.reduceEqDiff, Nat.reduceAdd, Nat.reduceMul] <;> first | refine gdN (fun _ => ?_) fun _ => ?_ | refine gd (fun _ => ?_) fun _ => ?_)) : Run LP ks (.ops ops keep) s J := xq hl hf hB h h'
theorem Rq {α : Type} {o : Option α} {x : α} (d : Nat → IX) (hl : s.low = low) (hf : NoB B s) (q : o = some x) (h' : ∀ c s', B6 (l c) s' → s'.low = low → NoB B s' → Nx LP J s' 60 ks (.inl .normal)) (hB : ops.all (za B) = true := by rfl)
 (h0 : ∀ c, lk (d c) keep s = some (l c) := by intro c; (first | simp only [eq, Xb, Xo, R7, Re, r, if_true, if_false, Nat.reduceEqDiff] | simp only [eq, Xb, Xo, R7, Re, *, if_true, if_false, Nat.reduceEqDiff]); all_goals rfl)
 (h : ∀ c, kn keep (Lf.evalOps LP (om LP) c ops (s.atc c ops.length)) = some (l c, low) := by
  intro c; revert q; (repeat' (first | refine gb fun _ _ => ?_ | refine gi (fun _ => ?_) fun _ => ?_)); (all_goals (intro q; cases q)); all_goals (repeat' (simp only [rt, ps, nob hf, *, reduceCtorEq, Nat.reduceEqDiff, Nat.reduceAdd, Nat.reduceMul] <;> first | refine gdN (fun _ => ?_) fun _ => ?_ | refine gd (fun _ => ?_) fun _ => ?_))) : Run LP ks (.ops ops keep) s J := xq hl hf hB h h'
end
end Go.Lf
