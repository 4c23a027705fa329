/- A part of the proof. -/
import Derived.Test.YtohgomfnigdaoaaDoorx3
set_option linter.all false
namespace Go.Lf
open Go
structure BW where
 Low : Int
 High : Int
 deriving DecidableEq
instance : BU BW := { n := 2, cells := fun x => [.int x.Low, .int x.High], enc := fun x => .agg [.int x.Low, .int x.High], law := fun _ => rfl, agg := fun _ => rfl, len := fun _ => rfl, ok := fun _ => rfl, key := fun x => [x.Low, x.High], hkey := fun _ => rfl }
structure AL where
 Low : BW
 High : BW
 Gain : BW
 Turn : BW
 Loss : Int
 Break : BW
instance : BU AL := { n := 11, cells := fun x => [.int x.Low.Low, .int x.Low.High, .int x.High.Low, .int x.High.High, .int x.Gain.Low, .int x.Gain.High, .int x.Turn.Low, .int x.Turn.High, .int x.Loss, .int x.Break.Low, .int x.Break.High], enc := fun x => .agg [.int x.Low.Low, .int x.Low.High, .int x.High.Low, .int x.High.High, .int x.Gain.Low, .int x.Gain.High, .int x.Turn.Low, .int x.Turn.High, .int x.Loss, .int x.Break.Low, .int x.Break.High], law := fun _ => rfl, agg := fun _ => rfl, len := fun _ => rfl, ok := fun _ => rfl, key := fun x => [x.Low.Low, x.Low.High, x.High.Low, x.High.High, x.Gain.Low, x.Gain.High, x.Turn.Low, x.Turn.High, x.Loss, x.Break.Low, x.Break.High], hkey := fun _ => rfl }
structure AK where
 Boy : Int
 Week : Int
 Note : Int
 Sang : Int
 deriving DecidableEq
instance : BU AK := { n := 4, cells := fun x => [.int x.Boy, .int x.Week, .int x.Note, .int x.Sang], enc := fun x => .agg [.int x.Boy, .int x.Week, .int x.Note, .int x.Sang], law := fun _ => rfl, agg := fun _ => rfl, len := fun _ => rfl, ok := fun _ => rfl, key := fun x => [x.Boy, x.Week, x.Note, x.Sang], hkey := fun _ => rfl }
structure VoiceBook where
 Boys : (Sl AL)
 Weeks : Int
 Trials : (Sl AK)
instance : RU VoiceBook := { n := 3, cells := fun x => [yA.enc x.Boys, .int x.Weeks, yA.enc x.Trials], enc := fun x => .agg [yA.enc x.Boys, .int x.Weeks, yA.enc x.Trials], law := fun _ => rfl, agg := fun _ => rfl, len := fun _ => rfl, ok := fun x => by simp only [List.map_cons, List.map_nil, List.all_cons, List.all_nil, NG, ND, NI, Ig, GT, Bool.and_self] }
structure AY where
 boy : Int
 week : Int
 deriving DecidableEq
instance : BU AY := { n := 2, cells := fun x => [.int x.boy, .int x.week], enc := fun x => .agg [.int x.boy, .int x.week], law := fun _ => rfl, agg := fun _ => rfl, len := fun _ => rfl, ok := fun _ => rfl, key := fun x => [x.boy, x.week], hkey := fun _ => rfl }
structure AA where
 VoiceBook : VoiceBook
 truths : (Sl (Sl (Ar 5 Int)))
 whole : (Mp 2 (Sl (Ar 5 Int)))
instance : RU AA := { n := 5, cells := fun x => [yA.enc x.VoiceBook.Boys, .int x.VoiceBook.Weeks, yA.enc x.VoiceBook.Trials, yA.enc x.truths, yA.enc x.whole], enc := fun x => .agg [yA.enc x.VoiceBook.Boys, .int x.VoiceBook.Weeks, yA.enc x.VoiceBook.Trials, yA.enc x.truths, yA.enc x.whole], law := fun _ => rfl, agg := fun _ => rfl, len := fun _ => rfl, ok := fun x => by simp only [List.map_cons, List.map_nil, List.all_cons, List.all_nil, NG, ND, NI, Ig, GT, Bool.and_self] }
structure AW where
 so : Int
 of_ : Int
 deriving DecidableEq
instance : BU AW := { n := 2, cells := fun x => [.int x.so, .int x.of_], enc := fun x => .agg [.int x.so, .int x.of_], law := fun _ => rfl, agg := fun _ => rfl, len := fun _ => rfl, ok := fun _ => rfl, key := fun x => [x.so, x.of_], hkey := fun _ => rfl }
structure A4 where
 Notes : BW
 Many : Int
instance : BU A4 := { n := 3, cells := fun x => [.int x.Notes.Low, .int x.Notes.High, .int x.Many], enc := fun x => .agg [.int x.Notes.Low, .int x.Notes.High, .int x.Many], law := fun _ => rfl, agg := fun _ => rfl, len := fun _ => rfl, ok := fun _ => rfl, key := fun x => [x.Notes.Low, x.Notes.High, x.Many], hkey := fun _ => rfl }
structure AI where
 Week : Int
 Parts : (Sl A4)
instance : RU AI := { n := 2, cells := fun x => [.int x.Week, yA.enc x.Parts], enc := fun x => .agg [.int x.Week, yA.enc x.Parts], law := fun _ => rfl, agg := fun _ => rfl, len := fun _ => rfl, ok := fun x => by simp only [List.map_cons, List.map_nil, List.all_cons, List.all_nil, NG, ND, NI, Ig, GT, Bool.and_self] }
structure BenchBook where
 Voice : VoiceBook
 Pieces : (Sl AI)
 Most : Int
instance : RU BenchBook := { n := 5, cells := fun x => [yA.enc x.Voice.Boys, .int x.Voice.Weeks, yA.enc x.Voice.Trials, yA.enc x.Pieces, .int x.Most], enc := fun x => .agg [yA.enc x.Voice.Boys, .int x.Voice.Weeks, yA.enc x.Voice.Trials, yA.enc x.Pieces, .int x.Most], law := fun _ => rfl, agg := fun _ => rfl, len := fun _ => rfl, ok := fun x => by simp only [List.map_cons, List.map_nil, List.all_cons, List.all_nil, NG, ND, NI, Ig, GT, Bool.and_self] }
structure AG where
 piece : Int
 part : Int
 deriving DecidableEq
instance : BU AG := { n := 2, cells := fun x => [.int x.piece, .int x.part], enc := fun x => .agg [.int x.piece, .int x.part], law := fun _ => rfl, agg := fun _ => rfl, len := fun _ => rfl, ok := fun _ => rfl, key := fun x => [x.piece, x.part], hkey := fun _ => rfl }
structure AB where
 BenchBook : BenchBook
 able : (Mp 2 (Sl Int))
instance : RU AB := { n := 6, cells := fun x => [yA.enc x.BenchBook.Voice.Boys, .int x.BenchBook.Voice.Weeks, yA.enc x.BenchBook.Voice.Trials, yA.enc x.BenchBook.Pieces, .int x.BenchBook.Most, yA.enc x.able], enc := fun x => .agg [yA.enc x.BenchBook.Voice.Boys, .int x.BenchBook.Voice.Weeks, yA.enc x.BenchBook.Voice.Trials, yA.enc x.BenchBook.Pieces, .int x.BenchBook.Most, yA.enc x.able], law := fun _ => rfl, agg := fun _ => rfl, len := fun _ => rfl, ok := fun x => by simp only [List.map_cons, List.map_nil, List.all_cons, List.all_nil, NG, ND, NI, Ig, GT, Bool.and_self] }
structure En where
 out : Fv
instance : RU En := { n := 1, cells := fun x => [yA.enc x.out], enc := fun x => .agg [yA.enc x.out], law := fun _ => rfl, agg := fun _ => rfl, len := fun _ => rfl, ok := fun x => by simp only [List.map_cons, List.map_nil, List.all_cons, List.all_nil, NG, ND, NI, Ig, GT, Bool.and_self] }
structure AC where
 Piece : Int
 Part : Int
 Boy : Int
 deriving DecidableEq
instance : BU AC := { n := 3, cells := fun x => [.int x.Piece, .int x.Part, .int x.Boy], enc := fun x => .agg [.int x.Piece, .int x.Part, .int x.Boy], law := fun _ => rfl, agg := fun _ => rfl, len := fun _ => rfl, ok := fun _ => rfl, key := fun x => [x.Piece, x.Part, x.Boy], hkey := fun _ => rfl }
structure AD where
 at_ : AG
 many : Int
 from_ : Int
instance : BU AD := { n := 4, cells := fun x => [.int x.at_.piece, .int x.at_.part, .int x.many, .int x.from_], enc := fun x => .agg [.int x.at_.piece, .int x.at_.part, .int x.many, .int x.from_], law := fun _ => rfl, agg := fun _ => rfl, len := fun _ => rfl, ok := fun _ => rfl, key := fun x => [x.at_.piece, x.at_.part, x.many, x.from_], hkey := fun _ => rfl }
structure I7 where
 Voice : Int
 Notes : (Sl Int)
instance : RU I7 := { n := 2, cells := fun x => [.int x.Voice, yA.enc x.Notes], enc := fun x => .agg [.int x.Voice, yA.enc x.Notes], law := fun _ => rfl, agg := fun _ => rfl, len := fun _ => rfl, ok := fun x => by simp only [List.map_cons, List.map_nil, List.all_cons, List.all_nil, NG, ND, NI, Ig, GT, Bool.and_self] }
structure Ak where
 Notes : Int
 Voices : (Sl BW)
 Step : Int
 Chords : Int
 Perfect : Int
 Copies : (Sl I7)
instance : RU Ak := { n := 6, cells := fun x => [.int x.Notes, yA.enc x.Voices, .int x.Step, .int x.Chords, .int x.Perfect, yA.enc x.Copies], enc := fun x => .agg [.int x.Notes, yA.enc x.Voices, .int x.Step, .int x.Chords, .int x.Perfect, yA.enc x.Copies], law := fun _ => rfl, agg := fun _ => rfl, len := fun _ => rfl, ok := fun x => by simp only [List.map_cons, List.map_nil, List.all_cons, List.all_nil, NG, ND, NI, Ig, GT, Bool.and_self] }
theorem iu : yA.n VoiceBook = 3 := rfl
theorem W1 (x : VoiceBook) : Av (some 3) 0 (yA.cells x) = some (yA.enc x) := Bd x rfl
theorem cc (x : VoiceBook) : Av none 0 (yA.cells x) = some (yA.enc x.Boys) := rfl
theorem cT (x : VoiceBook) : Av none 1 (yA.cells x) = some (.int x.Weeks) := rfl
theorem bB (x : VoiceBook) : Av none 2 (yA.cells x) = some (yA.enc x.Trials) := rfl
theorem YZ (x : AL) : Av (some 11) 0 (yA.cells x) = some (yA.enc x) := Bd x rfl
theorem uO (g : Nat) : BL.box g [.d (.int 0), .d (.int 0), .d (.int 0), .d (.int 0), .d (.int 0), .d (.int 0), .d (.int 0), .d (.int 0), .d (.int 0), .d (.int 0), .d (.int 0)] = BL.box g ((yA.cells ((AL.mk (BW.mk 0 0) (BW.mk 0 0) (BW.mk 0 0) (BW.mk 0 0) 0 (BW.mk 0 0)) : AL)).map LV.d) := rfl
theorem l5 : yA.n AL = 11 := rfl
theorem YP (x : AL) : Av (some 2) 0 (yA.cells x) = some (yA.enc x.Low) := rfl
theorem uW : yA.n BW = 2 := rfl
theorem qM (x : BW) : Av none 0 (yA.cells x) = some (.int x.Low) := rfl
theorem ri (x : BW) : Av none 1 (yA.cells x) = some (.int x.High) := rfl
theorem ZE (x : AL) : Av (some 2) 2 (yA.cells x) = some (yA.enc x.High) := rfl
theorem Yb (x : AL) : Av (some 2) 4 (yA.cells x) = some (yA.enc x.Gain) := rfl
theorem fw (x : AL) : Av none 8 (yA.cells x) = some (.int x.Loss) := rfl
theorem Y0 (x : AL) : Av (some 2) 6 (yA.cells x) = some (yA.enc x.Turn) := rfl
theorem Yx (x : AL) : Av (some 2) 9 (yA.cells x) = some (yA.enc x.Break) := rfl
theorem U2 (x : AK) : Av (some 4) 0 (yA.cells x) = some (yA.enc x) := Bd x rfl
theorem sN (g : Nat) : BL.box g [.d (.int 0), .d (.int 0), .d (.int 0), .d (.int 0)] = BL.box g ((yA.cells ((AK.mk 0 0 0 0) : AK)).map LV.d) := rfl
theorem da : yA.n AK = 4 := rfl
theorem YO (x : AK) : Av none 0 (yA.cells x) = some (.int x.Boy) := rfl
theorem Yl (x : AK) : Av none 1 (yA.cells x) = some (.int x.Week) := rfl
theorem Y4 (x : AK) : Av none 2 (yA.cells x) = some (.int x.Note) := rfl
theorem Y5 (x : AK) : Av none 3 (yA.cells x) = some (.int x.Sang) := rfl
theorem OD (g : Nat) : BL.box g [.d (.nils), .d (.int 0), .d (.nils), .d (.nils), .d (.nilmap)] = BL.box g ((yA.cells ((AA.mk (VoiceBook.mk (Sl.nil : (Sl AL)) 0 (Sl.nil : (Sl AK))) (Sl.nil : (Sl (Sl (Ar 5 Int)))) (Mp.nil : (Mp 2 (Sl (Ar 5 Int))))) : AA)).map LV.d) := rfl
theorem fJ : yA.n AA = 5 := rfl
theorem OI (a0 : BW) (a1 : BW) (a2 : BW) (a3 : BW) (a4 : BW) : EZ [.int 0, .int 0, .int 0, .int 0, .int 0, .int 0, .int 0, .int 0, .int 0, .int 0] [(0, 2, .d (yA.enc a0)), (2, 2, .d (yA.enc a1)), (4, 2, .d (yA.enc a2)), (6, 2, .d (yA.enc a3)), (8, 2, .d (yA.enc a4))] = some (.d (yA.enc (⟨[a0, a1, a2, a3, a4], rfl⟩ : (Ar 5 BW)))) := rfl
theorem sx (g : Nat) : BL.box g [.d (.int 0), .d (.int 0), .d (.int 0), .d (.int 0), .d (.int 0), .d (.int 0), .d (.int 0), .d (.int 0), .d (.int 0), .d (.int 0)] = BL.box g ((yA.cells ((⟨List.replicate 5 (BW.mk 0 0), rfl⟩ : (Ar 5 BW)) : (Ar 5 BW))).map LV.d) := rfl
theorem iE : yA.n (Ar 5 BW) = 10 := rfl
theorem mE : yA.n (Ar 5 Int) = 5 := rfl
theorem oZ (g : Nat) : BL.box g [.d (.int 0), .d (.int 0)] = BL.box g ((yA.cells ((BW.mk 0 0) : BW)).map LV.d) := rfl
theorem Yw (x : (Ar 5 Int)) : Av (some 5) 0 (yA.cells x) = some (yA.enc x) := Bd x rfl
theorem uE (a0 : Int) : Ve none [.int 0] 1 [(0, 1, .d (.int a0))] = some (Sl.lv (Sl.hot [a0] : Sl Int)) := rfl
theorem uS (g : Nat) : BL.box g [.d (.int 0), .d (.int 0), .d (.int 0), .d (.int 0), .d (.int 0)] = BL.box g ((yA.cells ((⟨List.replicate 5 0, rfl⟩ : (Ar 5 Int)) : (Ar 5 Int))).map LV.d) := rfl
theorem cN (a0 : (Ar 5 Int)) : Ve (some 5) [.int 0, .int 0, .int 0, .int 0, .int 0] 1 [(0, 5, .d (yA.enc a0))] = some (Sl.lv (Sl.hot [a0] : Sl (Ar 5 Int))) := J7 [a0] rfl rfl
theorem J2 (a0 : Int) (a1 : Int) : EZ [.int 0, .int 0] [(0, 1, .d (.int a0)), (1, 1, .d (.int a1))] = some (.d (yA.enc (AY.mk a0 a1))) := rfl
theorem eF (g : Nat) : BL.box g [.d (.int 0), .d (.int 0)] = BL.box g ((yA.cells ((AY.mk 0 0) : AY)).map LV.d) := rfl
theorem eW : yA.n AY = 2 := rfl
theorem VL (x : AY) : Av (some 2) 0 (yA.cells x) = some (yA.enc x) := Bd x rfl
theorem Tt (a0 : (Sl (Ar 5 Int))) : Ve none [.nils] 1 [(0, 1, Sl.lv (Sl.spent a0))] = some (Sl.lv (Sl.hot [a0] : Sl (Sl (Ar 5 Int)))) := by cases a0 <;> rfl
theorem Yd (x : AA) : Av none 3 (yA.cells x) = some (yA.enc x.truths) := rfl
theorem iT (g : Nat) : BL.box g [.d (.nils), .d (.int 0), .d (.nils)] = BL.box g ((yA.cells ((VoiceBook.mk (Sl.nil : (Sl AL)) 0 (Sl.nil : (Sl AK))) : VoiceBook)).map LV.d) := rfl
theorem aX (x : VoiceBook) (v : (Sl AL)) : C4 1 0 ([.d (yA.enc v)]) ((yA.cells x).map LV.d) = some ((yA.cells (VoiceBook.mk v x.Weeks x.Trials)).map LV.d) := by cases v <;> rfl
theorem TM (x : VoiceBook) : C4 1 2 [.d .nils] ((yA.cells x).map LV.d) = some ((yA.cells (VoiceBook.mk x.Boys x.Weeks (Sl.nil : (Sl AK)))).map LV.d) := rfl
theorem mI  : Ve none [.int 0] 0 [] = some (Sl.lv (Sl.hot [] : Sl Int)) := rfl
theorem jE  : Ve (some 2) [.int 0, .int 0] 0 [] = some (Sl.lv (Sl.hot [] : Sl BW)) := rfl
theorem Ug (a0 : Int) (a1 : Int) : EZ [.int 0, .int 0] [(0, 1, .d (.int a0)), (1, 1, .d (.int a1))] = some (.d (yA.enc (BW.mk a0 a1))) := rfl
theorem pP (a0 : BW) : Ve (some 2) [.int 0, .int 0] 1 [(0, 2, .d (yA.enc a0))] = some (Sl.lv (Sl.hot [a0] : Sl BW)) := J7 [a0] rfl rfl
theorem PT  : EZ [.nils, .int 0, .nils] [(1, 1, .d (.int 2))] = some (.d (yA.enc (VoiceBook.mk (Sl.nil : (Sl AL)) 2 (Sl.nil : (Sl AK))))) := rfl
theorem Im  : Ve none [.int 0] 3 [(0, 1, .d (.int 5)), (1, 1, .d (.int 8)), (2, 1, .d (.int 2))] = some (Sl.lv (Sl.hot [5, 8, 2] : Sl Int)) := rfl
theorem HU  : Ve none [.int 0] 3 [(0, 1, .d (.int 15)), (1, 1, .d (.int 20)), (2, 1, .d (.int 10))] = some (Sl.lv (Sl.hot [15, 20, 10] : Sl Int)) := rfl
theorem Qn (a0 : BW) (a1 : BW) (a5 : BW) : EZ [.int 0, .int 0, .int 0, .int 0, .int 0, .int 0, .int 0, .int 0, .int 0, .int 0, .int 0] [(0, 2, .d (yA.enc a0)), (2, 2, .d (yA.enc a1)), (9, 2, .d (yA.enc a5))] = some (.d (yA.enc (AL.mk a0 a1 (BW.mk 0 0) (BW.mk 0 0) 0 a5))) := rfl
theorem cC (a0 : AL) : Ve (some 11) [.int 0, .int 0, .int 0, .int 0, .int 0, .int 0, .int 0, .int 0, .int 0, .int 0, .int 0] 1 [(0, 11, .d (yA.enc a0))] = some (Sl.lv (Sl.hot [a0] : Sl AL)) := J7 [a0] rfl rfl
theorem mr (x : BW) : Av (some 2) 0 (yA.cells x) = some (yA.enc x) := Bd x rfl
theorem U3 (x : AA) : Av (some 5) 0 (yA.cells x) = some (yA.enc x) := Bd x rfl
theorem SK  : EZ [.nils, .int 0, .nils, .nils, .nilmap] [] = some (.d (yA.enc (AA.mk (VoiceBook.mk (Sl.nil : (Sl AL)) 0 (Sl.nil : (Sl AK))) (Sl.nil : (Sl (Sl (Ar 5 Int)))) (Mp.nil : (Mp 2 (Sl (Ar 5 Int))))))) := rfl
theorem ai (g : Nat) : BL.box g [.d (.int 0), .d (.int 0)] = BL.box g ((yA.cells ((AW.mk 0 0) : AW)).map LV.d) := rfl
theorem VU (a1 : Int) : EZ [.int 0, .int 0] [(1, 1, .d (.int a1))] = some (.d (yA.enc (AW.mk 0 a1))) := rfl
theorem cn : yA.n AW = 2 := rfl
theorem ZN (x : AA) : Av none 4 (yA.cells x) = some (yA.enc x.whole) := rfl
theorem YW (x : AA) : Av none 0 (yA.cells x) = some (yA.enc x.VoiceBook.Boys) := rfl
theorem X6 (x : AW) : Av none 0 (yA.cells x) = some (.int x.so) := rfl
theorem WR (x : AW) (v : Int) : C4 1 0 ([.d (.int v)]) ((yA.cells x).map LV.d) = some ((yA.cells (AW.mk v x.of_)).map LV.d) := rfl
theorem TT (x : AW) : Av (some 2) 0 (yA.cells x) = some (yA.enc x) := Bd x rfl
theorem XD (x : AW) : Av none 1 (yA.cells x) = some (.int x.of_) := rfl
theorem cy  : Ve none [.int 0] 1 [(0, 1, .d (.int 1))] = some (Sl.lv (Sl.hot [1] : Sl Int)) := rfl
theorem jU (g : Nat) : BL.box g [.d (.nils), .d (.int 0), .d (.nils), .d (.nils), .d (.int 0)] = BL.box g ((yA.cells ((BenchBook.mk (VoiceBook.mk (Sl.nil : (Sl AL)) 0 (Sl.nil : (Sl AK))) (Sl.nil : (Sl AI)) 0) : BenchBook)).map LV.d) := rfl
theorem L0 (a0 : VoiceBook) : EZ [.nils, .int 0, .nils, .nils, .int 0] [(0, 3, .d (yA.enc a0)), (4, 1, .d (.int 3))] = some (.d (yA.enc (BenchBook.mk a0 (Sl.nil : (Sl AI)) 3))) := rfl
theorem iD : yA.n BenchBook = 5 := rfl
theorem MK (a0 : BW) : EZ [.int 0, .int 0, .int 0] [(0, 2, .d (yA.enc a0)), (2, 1, .d (.int 1))] = some (.d (yA.enc (A4.mk a0 1))) := rfl
theorem ZG (a0 : A4) : Ve (some 3) [.int 0, .int 0, .int 0] 1 [(0, 3, .d (yA.enc a0))] = some (Sl.lv (Sl.hot [a0] : Sl A4)) := J7 [a0] rfl rfl
theorem SC (a0 : Int) (a1 : (Sl A4)) : EZ [.int 0, .nils] [(0, 1, .d (.int a0)), (1, 1, .d (yA.enc a1))] = some (.d (yA.enc (AI.mk a0 a1))) := by cases a1 <;> rfl
theorem Xz (a0 : AI) : Ve (some 2) [.int 0, .nils] 1 [(0, 2, .d (yA.enc a0))] = some (Sl.lv (Sl.hot [a0] : Sl AI)) := J7 [a0] rfl rfl
theorem Xm (x : BenchBook) : Av (some 5) 0 (yA.cells x) = some (yA.enc x) := Bd x rfl
theorem cV (x : BenchBook) : Av none 3 (yA.cells x) = some (yA.enc x.Pieces) := rfl
theorem Y8 (x : AI) : Av none 1 (yA.cells x) = some (yA.enc x.Parts) := rfl
theorem IS (g : Nat) : BL.box g [.d (.nils), .d (.int 0), .d (.nils), .d (.nils), .d (.int 0), .d (.nilmap)] = BL.box g ((yA.cells ((AB.mk (BenchBook.mk (VoiceBook.mk (Sl.nil : (Sl AL)) 0 (Sl.nil : (Sl AK))) (Sl.nil : (Sl AI)) 0) (Mp.nil : (Mp 2 (Sl Int)))) : AB)).map LV.d) := rfl
theorem W4 (x : BenchBook) : Av (some 3) 0 (yA.cells x) = some (yA.enc x.Voice) := rfl
theorem bD (x : BenchBook) : Av none 4 (yA.cells x) = some (.int x.Most) := rfl
theorem U6 (x : AI) : Av (some 2) 0 (yA.cells x) = some (yA.enc x) := Bd x rfl
theorem rm (g : Nat) : BL.box g [.d (.int 0), .d (.nils)] = BL.box g ((yA.cells ((AI.mk 0 (Sl.nil : (Sl A4))) : AI)).map LV.d) := rfl
theorem fh : yA.n AI = 2 := rfl
theorem Ye (x : AI) : Av none 0 (yA.cells x) = some (.int x.Week) := rfl
theorem dD (x : BenchBook) : Av none 1 (yA.cells x) = some (.int x.Voice.Weeks) := rfl
theorem X7 (x : A4) : Av (some 3) 0 (yA.cells x) = some (yA.enc x) := Bd x rfl
theorem tP (g : Nat) : BL.box g [.d (.int 0), .d (.int 0), .d (.int 0)] = BL.box g ((yA.cells ((A4.mk (BW.mk 0 0) 0) : A4)).map LV.d) := rfl
theorem hQ : yA.n A4 = 3 := rfl
theorem b7 (x : A4) : Av none 0 (yA.cells x) = some (.int x.Notes.Low) := rfl
theorem cf (x : A4) : Av none 1 (yA.cells x) = some (.int x.Notes.High) := rfl
theorem b9 (x : A4) : Av none 2 (yA.cells x) = some (.int x.Many) := rfl
theorem Vw (g : Nat) : BL.box g [.d (.nilfn)] = BL.box g ((yA.cells ((En.mk Fv.nil) : En)).map LV.d) := rfl
theorem IX  : EZ [.nilfn] [(0, 1, .d (.fn 71 [] []))] = some (.d (yA.enc (En.mk (Fv.mk 71 [] [])))) := rfl
theorem XJ : yA.n En = 1 := rfl
theorem dh : yA.n AB = 6 := rfl
theorem E7 (a0 : Int) (a1 : Int) : EZ [.int 0, .int 0] [(0, 1, .d (.int a0)), (1, 1, .d (.int a1))] = some (.d (yA.enc (AG.mk a0 a1))) := rfl
theorem se (g : Nat) : BL.box g [.d (.int 0), .d (.int 0)] = BL.box g ((yA.cells ((AG.mk 0 0) : AG)).map LV.d) := rfl
theorem ff : yA.n AG = 2 := rfl
theorem dF (x : BenchBook) : Av none 0 (yA.cells x) = some (yA.enc x.Voice.Boys) := rfl
theorem VN (x : AG) : Av (some 2) 0 (yA.cells x) = some (yA.enc x) := Bd x rfl
theorem Yr (x : AG) : Av none 0 (yA.cells x) = some (.int x.piece) := rfl
theorem YV (x : AG) : Av none 1 (yA.cells x) = some (.int x.part) := rfl
theorem Xw (x : A4) : Av (some 2) 0 (yA.cells x) = some (yA.enc x.Notes) := rfl
theorem Lh  : EZ [.nils, .int 0, .nils, .nils, .int 0, .nilmap] [] = some (.d (yA.enc (AB.mk (BenchBook.mk (VoiceBook.mk (Sl.nil : (Sl AL)) 0 (Sl.nil : (Sl AK))) (Sl.nil : (Sl AI)) 0) (Mp.nil : (Mp 2 (Sl Int)))))) := rfl
theorem ZP (x : AB) : Av none 5 (yA.cells x) = some (yA.enc x.able) := rfl
theorem cr  : Ve none [.int 0] 1 [(0, 1, .d (.int 0))] = some (Sl.lv (Sl.hot [0] : Sl Int)) := rfl
theorem VW (x : AB) : Av (some 6) 0 (yA.cells x) = some (yA.enc x) := Bd x rfl
theorem Y7 (x : AB) : Av none 3 (yA.cells x) = some (yA.enc x.BenchBook.Pieces) := rfl
theorem JD (a0 : AG) (a1 : Int) : EZ [.int 0, .int 0, .int 0, .int 0] [(0, 2, .d (yA.enc a0)), (2, 1, .d (.int a1)), (3, 1, .d (.int 0))] = some (.d (yA.enc (AD.mk a0 a1 0))) := rfl
theorem XC (a0 : AD) : Ve (some 4) [.int 0, .int 0, .int 0, .int 0] 1 [(0, 4, .d (yA.enc a0))] = some (Sl.lv (Sl.hot [a0] : Sl AD)) := J7 [a0] rfl rfl
theorem Wu (g : Nat) : BL.box g [.d (.int 0), .d (.int 0), .d (.int 0), .d (.int 0), .d (.int 0), .d (.int 0), .d (.int 0), .d (.int 0), .d (.int 0), .d (.int 0), .d (.int 0), .d (.int 0), .d (.int 0), .d (.int 0), .d (.int 0), .d (.int 0), .d (.int 0), .d (.int 0), .d (.int 0), .d (.int 0), .d (.int 0), .d (.int 0), .d (.int 0), .d (.int 0)] = BL.box g ((yA.cells ((⟨List.replicate 24 0, rfl⟩ : (Ar 24 Int)) : (Ar 24 Int))).map LV.d) := rfl
theorem X1 (x : (Ar 24 Int)) : Av (some 24) 0 (yA.cells x) = some (yA.enc x) := Bd x rfl
theorem jQ : yA.n (Ar 24 Int) = 24 := rfl
theorem ZH (x : AD) : Av none 2 (yA.cells x) = some (.int x.many) := rfl
theorem Va (x : AD) : Av (some 4) 0 (yA.cells x) = some (yA.enc x) := Bd x rfl
theorem sM (g : Nat) : BL.box g [.d (.int 0), .d (.int 0), .d (.int 0), .d (.int 0)] = BL.box g ((yA.cells ((AD.mk (AG.mk 0 0) 0 0) : AD)).map LV.d) := rfl
theorem eQ : yA.n AD = 4 := rfl
theorem VI (x : AD) : Av (some 2) 0 (yA.cells x) = some (yA.enc x.at_) := rfl
theorem YQ (x : AD) : Av none 3 (yA.cells x) = some (.int x.from_) := rfl
theorem YK (x : AD) : Av none 0 (yA.cells x) = some (.int x.at_.piece) := rfl
theorem Xj (x : AC) : Av (some 3) 0 (yA.cells x) = some (yA.enc x) := Bd x rfl
theorem ib : yA.n AC = 3 := rfl
theorem bL (x : AC) : Av none 0 (yA.cells x) = some (.int x.Piece) := rfl
theorem av (x : AC) : Av none 2 (yA.cells x) = some (.int x.Boy) := rfl
theorem Yj (x : AB) : Av none 4 (yA.cells x) = some (.int x.BenchBook.Most) := rfl
theorem Nn (a0 : AG) (a1 : Int) (a2 : Int) : EZ [.int 0, .int 0, .int 0, .int 0] [(0, 2, .d (yA.enc a0)), (2, 1, .d (.int a1)), (3, 1, .d (.int a2))] = some (.d (yA.enc (AD.mk a0 a1 a2))) := rfl
theorem Yq (x : AD) : Av none 1 (yA.cells x) = some (.int x.at_.part) := rfl
theorem PU (a0 : Int) (a1 : Int) (a2 : Int) : EZ [.int 0, .int 0, .int 0] [(0, 1, .d (.int a0)), (1, 1, .d (.int a1)), (2, 1, .d (.int a2))] = some (.d (yA.enc (AC.mk a0 a1 a2))) := rfl
theorem Y9 (a0 : AC) : Ve (some 3) [.int 0, .int 0, .int 0] 1 [(0, 3, .d (yA.enc a0))] = some (Sl.lv (Sl.hot [a0] : Sl AC)) := J7 [a0] rfl rfl
theorem OT  : Ve none [.int 0] 2 [(0, 1, .d (.int 0)), (1, 1, .d (.int 1))] = some (Sl.lv (Sl.hot [0, 1] : Sl Int)) := rfl
theorem oa (a0 : BW) (a1 : BW) : Ve (some 2) [.int 0, .int 0] 2 [(0, 2, .d (yA.enc a0)), (2, 2, .d (yA.enc a1))] = some (Sl.lv (Sl.hot [a0, a1] : Sl BW)) := J7 [a0, a1] rfl rfl
theorem Nq  : Ve none [.int 0] 2 [(0, 1, .d (.int 3)), (1, 1, .d (.int 2))] = some (Sl.lv (Sl.hot [3, 2] : Sl Int)) := rfl
theorem mF (g : Nat) : BL.box g [.d (.int 0), .d (.nils), .d (.int 0), .d (.int 0), .d (.int 0), .d (.nils)] = BL.box g ((yA.cells ((Ak.mk 0 (Sl.nil : (Sl BW)) 0 0 0 (Sl.nil : (Sl I7))) : Ak)).map LV.d) := rfl
theorem IJ  : EZ [.int 0, .nils, .int 0, .int 0, .int 0, .nils] [(0, 1, .d (.int 1)), (3, 1, .d (.int 255))] = some (.d (yA.enc (Ak.mk 1 (Sl.nil : (Sl BW)) 0 255 0 (Sl.nil : (Sl I7))))) := rfl
theorem mm : yA.n Ak = 6 := rfl
theorem Ib  : Ve none [.int 0] 3 [(0, 1, .d (.int 0)), (1, 1, .d (.int 1)), (2, 1, .d (.int 2))] = some (Sl.lv (Sl.hot [0, 1, 2] : Sl Int)) := rfl
theorem VZ  : Ve (some 3) [.int 0, .int 0, .int 0] 0 [] = some (Sl.lv (Sl.hot [] : Sl AC)) := rfl
theorem Tc (a0 : Int) (a2 : Int) : EZ [.int 0, .int 0, .int 0] [(0, 1, .d (.int a0)), (2, 1, .d (.int a2))] = some (.d (yA.enc (AC.mk a0 0 a2))) := rfl
theorem l4 : yA.n (Ar 4 Int) = 4 := rfl
theorem Ya (a2 : Int) : EZ [.int 0, .int 0, .int 0] [(2, 1, .d (.int a2))] = some (.d (yA.enc (AC.mk 0 0 a2))) := rfl
def AA.lc (e : AA) (j t g : Nat) : List LV := [.d (yA.enc e.VoiceBook.Boys), .d (.int e.VoiceBook.Weeks), .d (yA.enc e.VoiceBook.Trials), .d (yA.enc e.truths), .mref j t g]
def AB.lc (e : AB) (j t g : Nat) : List LV := [.d (yA.enc e.BenchBook.Voice.Boys), .d (.int e.BenchBook.Voice.Weeks), .d (yA.enc e.BenchBook.Voice.Trials), .d (yA.enc e.BenchBook.Pieces), .d (.int e.BenchBook.Most), .mref j t g]
def AS (e : AA) (j t g : Nat) : List LV := [.d (yA.enc e.VoiceBook.Boys), .d (.int e.VoiceBook.Weeks), .d (yA.enc e.VoiceBook.Trials), Sl.lv (Sl.unf e.truths), .mref j t g]
def Bz (e : VoiceBook) : List LV := [Sl.lv (Sl.unf e.Boys), .d (.int e.Weeks), .d (yA.enc e.Trials)]
def Bw (e : BenchBook) : List LV := [.d (yA.enc e.Voice.Boys), .d (.int e.Voice.Weeks), .d (yA.enc e.Voice.Trials), Sl.lv (Sl.unf e.Pieces), .d (.int e.Most)]
def CE (e : Ak) : List LV := [.d (.int e.Notes), Sl.lv (Sl.unf e.Voices), .d (.int e.Step), .d (.int e.Chords), .d (.int e.Perfect), .d (yA.enc e.Copies)]
theorem RY (a0 : VoiceBook) (j t g : Nat) : EZ [.nils, .int 0, .nils, .nils, .nilmap] [(0, 3, .d (yA.enc a0)), (4, 1, .mref j t g)] = some (.agg (AA.lc (AA.mk a0 (Sl.nil : (Sl (Sl (Ar 5 Int)))) (Mp.nil : (Mp 2 (Sl (Ar 5 Int))))) j t g)) := rfl
theorem Kt (e : AA) (j t g : Nat) (cs : List LV) (h : cs.length = 5) : C4 5 0 (AA.lc e j t g) cs = some (AA.lc e j t g) := Uw h rfl (by simp only [AA.lc, List.all_cons, List.all_nil, NG, ND, NI, Ig, GT, Vm, Bool.and_self])
theorem B5 (e : AA) (j t g : Nat) : part (some 5) 0 (AA.lc e j t g) = some (.agg (AA.lc e j t g)) := rfl
theorem Fg (e : AA) (j t g : Nat) : aJ 5 (.agg (AA.lc e j t g)) = some (AA.lc e j t g) := by
 simp only [aJ, TR]
 rw [if_pos ⟨rfl, by simp only [AA.lc, List.all_cons, List.all_nil, NG, ND, NI, Ig, GT, Vm, Bool.and_self]⟩]
theorem Tq (e : AA) (j t g : Nat) : part (some 5) 0 (AA.lc e j t g) = some (.agg (AA.lc e j t g)) := rfl
theorem RV (e : AA) (j t g : Nat) (r : List LV) : AX (.agg (AA.lc e j t g) :: r) = none := rfl
theorem V7 (e : AA) (j t g : Nat) : part none 0 (AA.lc e j t g) = some (.d (yA.enc e.VoiceBook.Boys)) := rfl
theorem Qa (e : AA) (j t g : Nat) : part none 2 (AA.lc e j t g) = some (.d (yA.enc e.VoiceBook.Trials)) := rfl
theorem Qw (e : AA) (j t g : Nat) : part none 0 (AA.lc e j t g) = some (.d (yA.enc e.VoiceBook.Boys)) := rfl
theorem i4 (e : AA) (j t g : Nat) : part none 4 (AA.lc e j t g) = some (.mref j t g) := rfl
theorem lN {e : AA} {j t g : Nat} {v : (Sl (Sl (Ar 5 Int)))} (h : v.lv = v.unf.lv) : C4 1 3 [v.lv] (AA.lc e j t g) = some (AS (AA.mk e.VoiceBook v e.whole) j t g) := by
 cases v <;> first | rfl | (cases h)
theorem Gu (e : AA) (j t g : Nat) : part (some 5) 0 (AS e j t g) = some (.agg (AA.lc e j t g)) := by
 cases h0 : e.truths <;> first | rfl | (simp only [AA.lc, AS, h0]; rfl) | (simp only [AA.lc, AS, h0])
theorem NQ (e : AA) (j t g : Nat) : part none 4 (AS e j t g) = some (.mref j t g) := rfl
theorem Nw (e : AA) (j t g : Nat) : List.set (AS e j t g) 3 (.d (yA.enc e.truths)) = (AS (AA.mk e.VoiceBook e.truths.cool e.whole) j t g) := by
 cases h0 : e.truths <;> first | rfl | (simp only [AA.lc, AS, h0]; rfl) | (simp only [AA.lc, AS, h0])
theorem OX {e : AA} {j t g : Nat} {v : (Sl (Sl (Ar 5 Int)))} (h : v.lv = v.unf.lv) : C4 1 3 [v.lv] (AS e j t g) = some (AS (AA.mk e.VoiceBook v e.whole) j t g) := by
 cases v <;> first | rfl | (cases h)
theorem Ta {s : St} {t tm g gm : Nat} {e : AA} {es : List (List Int × (Sl (Ar 5 Int)))} (h : s.raw t = some (.box g (AA.lc e s.low.length tm gm))) (hm : s.raw tm = some (.mapo gm 2 (Ds es))) : Ut s (t, some (some 5)) = some (.d (yA.enc ((AA.mk e.VoiceBook e.truths (Mp.mk es))))) := by
 simp only [St.raw] at h hm
 have hc : (AA.lc e s.low.length tm gm).map LV.copy = AA.lc e s.low.length tm gm := rfl
 have hl : (AA.lc e s.low.length tm gm).length = 5 := rfl
 have hn : LV.norm (.agg (AA.lc e s.low.length tm gm)) = .agg (AA.lc e s.low.length tm gm) := rfl
 simp only [Ut, DX, h, hl, if_true, hc, hn, Option.bind_some]
 show (((AA.lc e s.low.length tm gm).mapM (freeze s.low.length s.env 8)).map fun cs => LV.norm (.agg cs)) = _
 simp only [AA.lc, List.mapM_cons, List.mapM_nil, kj, Z0 _ _ _ _ _ _ _ hm]
 rfl
theorem S1 (e : AA) (j t g : Nat) : (AA.lc e j t g) = (AS (AA.mk e.VoiceBook e.truths.cool e.whole) j t g) := by
 cases h0 : e.truths <;> first | rfl | (simp only [AA.lc, AS, h0]; rfl) | (simp only [AA.lc, AS, h0])
theorem ly {e : VoiceBook} {v : (Sl AL)} (h : v.lv = v.unf.lv) : C4 1 0 [v.lv] ((yA.cells e).map LV.d) = some (Bz (VoiceBook.mk v e.Weeks e.Trials)) := by
 cases v <;> first | rfl | (cases h)
theorem PQ (e : VoiceBook) : List.set (Bz e) 0 (.d (yA.enc e.Boys)) = (Bz (VoiceBook.mk e.Boys.cool e.Weeks e.Trials)) := by
 obtain ⟨z, _, _⟩ := e
 cases z <;> rfl
theorem PE {e : VoiceBook} {v : (Sl AL)} (h : v.lv = v.unf.lv) : C4 1 0 [v.lv] (Bz e) = some (Bz (VoiceBook.mk v e.Weeks e.Trials)) := by
 cases v <;> first | rfl | (cases h)
theorem MJ (e : VoiceBook) : part (some 3) 0 (Bz e) = some (.d (yA.enc e)) := by
 obtain ⟨z, _, _⟩ := e
 cases z <;> rfl
theorem T8 (e : VoiceBook) : ((yA.cells e).map LV.d) = (Bz (VoiceBook.mk e.Boys.cool e.Weeks e.Trials)) := by
 obtain ⟨z, _, _⟩ := e
 cases z <;> rfl
theorem lj {e : BenchBook} {v : (Sl AI)} (h : v.lv = v.unf.lv) : C4 1 3 [v.lv] ((yA.cells e).map LV.d) = some (Bw (BenchBook.mk e.Voice v e.Most)) := by
 cases v <;> first | rfl | (cases h)
theorem PO (e : BenchBook) : List.set (Bw e) 3 (.d (yA.enc e.Pieces)) = (Bw (BenchBook.mk e.Voice e.Pieces.cool e.Most)) := by
 obtain ⟨_, z, _⟩ := e
 cases z <;> rfl
theorem PH {e : BenchBook} {v : (Sl AI)} (h : v.lv = v.unf.lv) : C4 1 3 [v.lv] (Bw e) = some (Bw (BenchBook.mk e.Voice v e.Most)) := by
 cases v <;> first | rfl | (cases h)
theorem Md (e : BenchBook) : part (some 5) 0 (Bw e) = some (.d (yA.enc e)) := by
 obtain ⟨_, z, _⟩ := e
 cases z <;> rfl
theorem TV (e : BenchBook) : ((yA.cells e).map LV.d) = (Bw (BenchBook.mk e.Voice e.Pieces.cool e.Most)) := by
 obtain ⟨_, z, _⟩ := e
 cases z <;> rfl
theorem Rt (a0 : BenchBook) (j t g : Nat) : EZ [.nils, .int 0, .nils, .nils, .int 0, .nilmap] [(0, 5, .d (yA.enc a0)), (5, 1, .mref j t g)] = some (.agg (AB.lc (AB.mk a0 (Mp.nil : (Mp 2 (Sl Int)))) j t g)) := rfl
theorem Fp (e : AB) (j t g : Nat) (cs : List LV) (h : cs.length = 6) : C4 6 0 (AB.lc e j t g) cs = some (AB.lc e j t g) := Uw h rfl (by simp only [AB.lc, List.all_cons, List.all_nil, NG, ND, NI, Ig, GT, Vm, Bool.and_self])
theorem Dy (e : AB) (j t g : Nat) : part (some 6) 0 (AB.lc e j t g) = some (.agg (AB.lc e j t g)) := rfl
theorem J5 (e : AB) (j t g : Nat) (r : List LV) : AX (.agg (AB.lc e j t g) :: r) = none := rfl
theorem TL (e : AB) (j t g : Nat) : aJ 6 (.agg (AB.lc e j t g)) = some (AB.lc e j t g) := by
 simp only [aJ, TR]
 rw [if_pos ⟨rfl, by simp only [AB.lc, List.all_cons, List.all_nil, NG, ND, NI, Ig, GT, Vm, Bool.and_self]⟩]
theorem QW (e : AB) (j t g : Nat) : part none 3 (AB.lc e j t g) = some (.d (yA.enc e.BenchBook.Pieces)) := rfl
theorem OC (e : AB) (j t g : Nat) : part (some 3) 0 (AB.lc e j t g) = some (.d (yA.enc e.BenchBook.Voice)) := rfl
theorem JK (e : AB) (j t g : Nat) : part none 5 (AB.lc e j t g) = some (.mref j t g) := rfl
theorem Kx {s : St} {t tm g gm : Nat} {e : AB} {es : List (List Int × (Sl Int))} (h : s.raw t = some (.box g (AB.lc e s.low.length tm gm))) (hm : s.raw tm = some (.mapo gm 2 (Ds es))) : Ut s (t, some (some 6)) = some (.d (yA.enc ((AB.mk e.BenchBook (Mp.mk es))))) := by
 simp only [St.raw] at h hm
 have hc : (AB.lc e s.low.length tm gm).map LV.copy = AB.lc e s.low.length tm gm := rfl
 have hl : (AB.lc e s.low.length tm gm).length = 6 := rfl
 have hn : LV.norm (.agg (AB.lc e s.low.length tm gm)) = .agg (AB.lc e s.low.length tm gm) := rfl
 simp only [Ut, DX, h, hl, if_true, hc, hn, Option.bind_some]
 show (((AB.lc e s.low.length tm gm).mapM (freeze s.low.length s.env 8)).map fun cs => LV.norm (.agg cs)) = _
 simp only [AB.lc, List.mapM_cons, List.mapM_nil, kj, Z0 _ _ _ _ _ _ _ hm]
 rfl
theorem nB {e : Ak} {v : (Sl BW)} (h : v.lv = v.unf.lv) : C4 1 1 [v.lv] ((yA.cells e).map LV.d) = some (CE (Ak.mk e.Notes v e.Step e.Chords e.Perfect e.Copies)) := by
 cases v <;> first | rfl | (cases h)
theorem Qx (e : Ak) : List.set (CE e) 1 (.d (yA.enc e.Voices)) = (CE (Ak.mk e.Notes e.Voices.cool e.Step e.Chords e.Perfect e.Copies)) := by
 obtain ⟨_, z, _, _, _, _⟩ := e
 cases z <;> rfl
theorem Qc {e : Ak} {v : (Sl BW)} (h : v.lv = v.unf.lv) : C4 1 1 [v.lv] (CE e) = some (CE (Ak.mk e.Notes v e.Step e.Chords e.Perfect e.Copies)) := by
 cases v <;> first | rfl | (cases h)
theorem NR (e : Ak) : part (some 6) 0 (CE e) = some (.d (yA.enc e)) := by
 obtain ⟨_, z, _, _, _, _⟩ := e
 cases z <;> rfl
theorem VT (e : Ak) : ((yA.cells e).map LV.d) = (CE (Ak.mk e.Notes e.Voices.cool e.Step e.Chords e.Perfect e.Copies)) := by
 obtain ⟨_, z, _, _, _, _⟩ := e
 cases z <;> rfl
def ps := And.intro @Bool.true_beq <| And.intro @Bool.false_beq <| And.intro @Bool.true_bne <| And.intro @Bool.false_bne <| And.intro @beq_true <| And.intro @beq_false <| And.intro @Bool.bne_true <| And.intro @Bool.bne_false <| And.intro @OI <| And.intro @L0 <| And.intro @MK <| And.intro @SC <| And.intro @Qn <| And.intro @Rt <| And.intro @JD <| And.intro @Nn <| And.intro @RY <| And.intro @cN <| And.intro @ZG <| And.intro @Xz <| And.intro @Y9 <| And.intro @cr <| And.intro @OT <| And.intro @Ib <| And.intro @cy <| And.intro @HU <| And.intro @Nq <| And.intro @Im <| And.intro @uE <| And.intro @mI <| And.intro @Tt <| And.intro @pP <| And.intro @oa <| And.intro @cC <| And.intro @XC <| And.intro @jQ <| And.intro @l4 <| And.intro @mE <| And.intro @iE <| And.intro @iD <| And.intro @hQ <| And.intro @fh <| And.intro @ib <| And.intro @mm <| And.intro @uW <| And.intro @iu <| And.intro @l5 <| And.intro @da <| And.intro @dh <| And.intro @ff <| And.intro @eQ <| And.intro @XJ <| And.intro @fJ <| And.intro @eW <| And.intro @cn <| And.intro @X1 <| And.intro @Yw <| And.intro @dF <| And.intro @W4 <| And.intro @dD <| And.intro @cV <| And.intro @bD <| And.intro @Xm <| And.intro @b7 <| And.intro @Xw <| And.intro @cf <| And.intro @b9 <| And.intro @X7 <| And.intro @Ye <| And.intro @Y8 <| And.intro @U6 <| And.intro @bL <| And.intro @av <| And.intro @Xj <| And.intro @qM <| And.intro @ri <| And.intro @mr <| And.intro @cc <| And.intro @cT <| And.intro @bB <| And.intro @W1 <| And.intro @YP <| And.intro @ZE <| And.intro @Yb <| And.intro @Y0 <| And.intro @fw <| And.intro @Yx <| And.intro @YZ <| And.intro @YO <| And.intro @Yl <| And.intro @Y4 <| And.intro @Y5 <| And.intro @U2 <| And.intro @Y7 <| And.intro @Yj <| And.intro @ZP <| And.intro @VW <| And.intro @Yr <| And.intro @YV <| And.intro @VN <| And.intro @YK <| And.intro @VI <| And.intro @Yq <| And.intro @ZH <| And.intro @YQ <| And.intro @Va <| And.intro @YW <| And.intro @Yd <| And.intro @ZN <| And.intro @U3 <| And.intro @VL <| And.intro @X6 <| And.intro @XD <| And.intro @TT <| And.intro @aX <| And.intro @TM <| And.intro @WR trivial
section
variable {LP : A2} {ks : List gy} {J : xt → St → Prop} {s : St} {B : List Nat} {ops : List AH} {keep : List Nat} {low : List Fr} {l : Nat → IT}
theorem Ra (hl : s.low = low) (hf : yT B s) (h' : ∀ c s', Dc (l c) s' → s'.low = low → yT B s' → Nx LP J s' 60 ks (.inl .normal)) (hB : ops.all (yY B) = true := by rfl)
 (h : ∀ c, kn keep (Lf.evalOps LP (om LP) c ops (s.atc c ops.length)) = some (l c, low) := by intro c; simp only [rt, ps, yO hf, *, reduceCtorEq, Nat.reduceEqDiff, Nat.reduceAdd, Nat.reduceMul] <;> rfl) : Run LP ks (.ops ops keep) s J := wV hl hf hB h h'
theorem Rx (d : Nat → IT) (hl : s.low = low) (hf : yT B s) (h' : ∀ c s', Dc (l c) s' → s'.low = low → yT B s' → Nx LP J s' 60 ks (.inl .normal)) (hB : ops.all (yY B) = true := by rfl)
 (h0 : ∀ c, lk (d c) keep s = some (l c) := by intro c; (first | simp only [fF, Xy, Xr, SJ, SD, r, if_true, if_false, Nat.reduceEqDiff] | simp only [fF, Xy, Xr, SJ, SD, *, if_true, if_false, Nat.reduceEqDiff]); all_goals rfl)
 (h : ∀ c, kn keep (Lf.evalOps LP (om LP) c ops (s.atc c ops.length)) = some (l c, low) := by intro c; repeat' (simp only [rt, ps, yO hf, *, reduceCtorEq, Nat.reduceEqDiff, Nat.reduceAdd, Nat.reduceMul] <;> first | refine yD (fun _ => ?_) fun _ => ?_ | refine gd (fun _ => ?_) fun _ => ?_)) : Run LP ks (.ops ops keep) s J := wV hl hf hB h h'
theorem Rq {α : Type} {o : Option α} {x : α} (d : Nat → IT) (hl : s.low = low) (hf : yT B s) (q : o = some x) (h' : ∀ c s', Dc (l c) s' → s'.low = low → yT B s' → Nx LP J s' 60 ks (.inl .normal)) (hB : ops.all (yY B) = true := by rfl)
 (h0 : ∀ c, lk (d c) keep s = some (l c) := by intro c; (first | simp only [fF, Xy, Xr, SJ, SD, r, if_true, if_false, Nat.reduceEqDiff] | simp only [fF, Xy, Xr, SJ, SD, *, if_true, if_false, Nat.reduceEqDiff]); all_goals rfl)
 (h : ∀ c, kn keep (Lf.evalOps LP (om LP) c ops (s.atc c ops.length)) = some (l c, low) := by
  intro c; revert q; (repeat' (first | refine gb fun _ _ => ?_ | refine gi (fun _ => ?_) fun _ => ?_)); (all_goals (intro q; cases q)); all_goals (repeat' (simp only [rt, ps, yO hf, *, reduceCtorEq, Nat.reduceEqDiff, Nat.reduceAdd, Nat.reduceMul] <;> first | refine yD (fun _ => ?_) fun _ => ?_ | refine gd (fun _ => ?_) fun _ => ?_))) : Run LP ks (.ops ops keep) s J := wV hl hf hB h h'
end
end Go.Lf
