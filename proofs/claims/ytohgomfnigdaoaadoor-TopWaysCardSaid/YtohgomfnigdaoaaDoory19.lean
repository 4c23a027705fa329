/- A part of the proof. -/
import Derived.Test.YtohgomfnigdaoaaDoory3
set_option linter.all false
namespace Go.Lf
open Go
structure BS where
 Low : Int
 High : Int
 deriving DecidableEq
instance : Bc BS := { n := 2, cells := fun x => [.int x.Low, .int x.High], enc := fun x => .agg [.int x.Low, .int x.High], law := fun _ => rfl, agg := fun _ => rfl, len := fun _ => rfl, ok := fun _ => rfl, key := fun x => [x.Low, x.High], hkey := fun _ => rfl }
structure AL where
 Low : BS
 High : BS
 Gain : BS
 Turn : BS
 Loss : Int
 Break : BS
instance : Bc AL := { n := 11, cells := fun x => [.int x.Low.Low, .int x.Low.High, .int x.High.Low, .int x.High.High, .int x.Gain.Low, .int x.Gain.High, .int x.Turn.Low, .int x.Turn.High, .int x.Loss, .int x.Break.Low, .int x.Break.High], enc := fun x => .agg [.int x.Low.Low, .int x.Low.High, .int x.High.Low, .int x.High.High, .int x.Gain.Low, .int x.Gain.High, .int x.Turn.Low, .int x.Turn.High, .int x.Loss, .int x.Break.Low, .int x.Break.High], law := fun _ => rfl, agg := fun _ => rfl, len := fun _ => rfl, ok := fun _ => rfl, key := fun x => [x.Low.Low, x.Low.High, x.High.Low, x.High.High, x.Gain.Low, x.Gain.High, x.Turn.Low, x.Turn.High, x.Loss, x.Break.Low, x.Break.High], hkey := fun _ => rfl }
structure AI where
 Boy : Int
 Week : Int
 Note : Int
 Sang : Int
 deriving DecidableEq
instance : Bc AI := { n := 4, cells := fun x => [.int x.Boy, .int x.Week, .int x.Note, .int x.Sang], enc := fun x => .agg [.int x.Boy, .int x.Week, .int x.Note, .int x.Sang], law := fun _ => rfl, agg := fun _ => rfl, len := fun _ => rfl, ok := fun _ => rfl, key := fun x => [x.Boy, x.Week, x.Note, x.Sang], hkey := fun _ => rfl }
structure VoiceBook where
 Boys : (Sl AL)
 Weeks : Int
 Trials : (Sl AI)
instance : TJ VoiceBook := { n := 3, cells := fun x => [Enc.enc x.Boys, .int x.Weeks, Enc.enc x.Trials], enc := fun x => .agg [Enc.enc x.Boys, .int x.Weeks, Enc.enc x.Trials], law := fun _ => rfl, agg := fun _ => rfl, len := fun _ => rfl, ok := fun x => by simp only [List.map_cons, List.map_nil, List.all_cons, List.all_nil, NS, NT, NV, I5, Gq, Bool.and_self] }
structure Ab where
 boy : Int
 week : Int
 deriving DecidableEq
instance : Bc Ab := { n := 2, cells := fun x => [.int x.boy, .int x.week], enc := fun x => .agg [.int x.boy, .int x.week], law := fun _ => rfl, agg := fun _ => rfl, len := fun _ => rfl, ok := fun _ => rfl, key := fun x => [x.boy, x.week], hkey := fun _ => rfl }
structure AA where
 VoiceBook : VoiceBook
 truths : (Sl (Sl (Ar 5 Int)))
 whole : (Mp 2 (Sl (Ar 5 Int)))
instance : TJ AA := { n := 5, cells := fun x => [Enc.enc x.VoiceBook.Boys, .int x.VoiceBook.Weeks, Enc.enc x.VoiceBook.Trials, Enc.enc x.truths, Enc.enc x.whole], enc := fun x => .agg [Enc.enc x.VoiceBook.Boys, .int x.VoiceBook.Weeks, Enc.enc x.VoiceBook.Trials, Enc.enc x.truths, Enc.enc x.whole], law := fun _ => rfl, agg := fun _ => rfl, len := fun _ => rfl, ok := fun x => by simp only [List.map_cons, List.map_nil, List.all_cons, List.all_nil, NS, NT, NV, I5, Gq, Bool.and_self] }
structure AY where
 so : Int
 of_ : Int
 deriving DecidableEq
instance : Bc AY := { n := 2, cells := fun x => [.int x.so, .int x.of_], enc := fun x => .agg [.int x.so, .int x.of_], law := fun _ => rfl, agg := fun _ => rfl, len := fun _ => rfl, ok := fun _ => rfl, key := fun x => [x.so, x.of_], hkey := fun _ => rfl }
structure A7 where
 Notes : BS
 Many : Int
instance : Bc A7 := { n := 3, cells := fun x => [.int x.Notes.Low, .int x.Notes.High, .int x.Many], enc := fun x => .agg [.int x.Notes.Low, .int x.Notes.High, .int x.Many], law := fun _ => rfl, agg := fun _ => rfl, len := fun _ => rfl, ok := fun _ => rfl, key := fun x => [x.Notes.Low, x.Notes.High, x.Many], hkey := fun _ => rfl }
structure AK where
 Week : Int
 Parts : (Sl A7)
instance : TJ AK := { n := 2, cells := fun x => [.int x.Week, Enc.enc x.Parts], enc := fun x => .agg [.int x.Week, Enc.enc x.Parts], law := fun _ => rfl, agg := fun _ => rfl, len := fun _ => rfl, ok := fun x => by simp only [List.map_cons, List.map_nil, List.all_cons, List.all_nil, NS, NT, NV, I5, Gq, Bool.and_self] }
structure BenchBook where
 Voice : VoiceBook
 Pieces : (Sl AK)
 Most : Int
instance : TJ BenchBook := { n := 5, cells := fun x => [Enc.enc x.Voice.Boys, .int x.Voice.Weeks, Enc.enc x.Voice.Trials, Enc.enc x.Pieces, .int x.Most], enc := fun x => .agg [Enc.enc x.Voice.Boys, .int x.Voice.Weeks, Enc.enc x.Voice.Trials, Enc.enc x.Pieces, .int x.Most], law := fun _ => rfl, agg := fun _ => rfl, len := fun _ => rfl, ok := fun x => by simp only [List.map_cons, List.map_nil, List.all_cons, List.all_nil, NS, NT, NV, I5, Gq, Bool.and_self] }
structure AG where
 piece : Int
 part : Int
 deriving DecidableEq
instance : Bc AG := { n := 2, cells := fun x => [.int x.piece, .int x.part], enc := fun x => .agg [.int x.piece, .int x.part], law := fun _ => rfl, agg := fun _ => rfl, len := fun _ => rfl, ok := fun _ => rfl, key := fun x => [x.piece, x.part], hkey := fun _ => rfl }
structure AB where
 BenchBook : BenchBook
 able : (Mp 2 (Sl Int))
instance : TJ AB := { n := 6, cells := fun x => [Enc.enc x.BenchBook.Voice.Boys, .int x.BenchBook.Voice.Weeks, Enc.enc x.BenchBook.Voice.Trials, Enc.enc x.BenchBook.Pieces, .int x.BenchBook.Most, Enc.enc x.able], enc := fun x => .agg [Enc.enc x.BenchBook.Voice.Boys, .int x.BenchBook.Voice.Weeks, Enc.enc x.BenchBook.Voice.Trials, Enc.enc x.BenchBook.Pieces, .int x.BenchBook.Most, Enc.enc x.able], law := fun _ => rfl, agg := fun _ => rfl, len := fun _ => rfl, ok := fun x => by simp only [List.map_cons, List.map_nil, List.all_cons, List.all_nil, NS, NT, NV, I5, Gq, Bool.and_self] }
structure En where
 out : Fv
instance : TJ En := { n := 1, cells := fun x => [Enc.enc x.out], enc := fun x => .agg [Enc.enc x.out], law := fun _ => rfl, agg := fun _ => rfl, len := fun _ => rfl, ok := fun x => by simp only [List.map_cons, List.map_nil, List.all_cons, List.all_nil, NS, NT, NV, I5, Gq, Bool.and_self] }
structure AC where
 Piece : Int
 Part : Int
 Boy : Int
 deriving DecidableEq
instance : Bc AC := { n := 3, cells := fun x => [.int x.Piece, .int x.Part, .int x.Boy], enc := fun x => .agg [.int x.Piece, .int x.Part, .int x.Boy], law := fun _ => rfl, agg := fun _ => rfl, len := fun _ => rfl, ok := fun _ => rfl, key := fun x => [x.Piece, x.Part, x.Boy], hkey := fun _ => rfl }
structure AD where
 at_ : AG
 many : Int
 from_ : Int
instance : Bc AD := { n := 4, cells := fun x => [.int x.at_.piece, .int x.at_.part, .int x.many, .int x.from_], enc := fun x => .agg [.int x.at_.piece, .int x.at_.part, .int x.many, .int x.from_], law := fun _ => rfl, agg := fun _ => rfl, len := fun _ => rfl, ok := fun _ => rfl, key := fun x => [x.at_.piece, x.at_.part, x.many, x.from_], hkey := fun _ => rfl }
structure JK where
 Voice : Int
 Notes : (Sl Int)
instance : TJ JK := { n := 2, cells := fun x => [.int x.Voice, Enc.enc x.Notes], enc := fun x => .agg [.int x.Voice, Enc.enc x.Notes], law := fun _ => rfl, agg := fun _ => rfl, len := fun _ => rfl, ok := fun x => by simp only [List.map_cons, List.map_nil, List.all_cons, List.all_nil, NS, NT, NV, I5, Gq, Bool.and_self] }
structure Aq where
 Notes : Int
 Voices : (Sl BS)
 Step : Int
 Chords : Int
 Perfect : Int
 Copies : (Sl JK)
instance : TJ Aq := { n := 6, cells := fun x => [.int x.Notes, Enc.enc x.Voices, .int x.Step, .int x.Chords, .int x.Perfect, Enc.enc x.Copies], enc := fun x => .agg [.int x.Notes, Enc.enc x.Voices, .int x.Step, .int x.Chords, .int x.Perfect, Enc.enc x.Copies], law := fun _ => rfl, agg := fun _ => rfl, len := fun _ => rfl, ok := fun x => by simp only [List.map_cons, List.map_nil, List.all_cons, List.all_nil, NS, NT, NV, I5, Gq, Bool.and_self] }
theorem ij : Enc.n VoiceBook = 3 := rfl
theorem WF (x : VoiceBook) : A0 (some 3) 0 (Enc.cells x) = some (Enc.enc x) := Bj x rfl
theorem bZ (x : VoiceBook) : A0 none 0 (Enc.cells x) = some (Enc.enc x.Boys) := rfl
theorem cX (x : VoiceBook) : A0 none 1 (Enc.cells x) = some (.int x.Weeks) := rfl
theorem dl (x : VoiceBook) : A0 none 2 (Enc.cells x) = some (Enc.enc x.Trials) := rfl
theorem Yd (x : AL) : A0 (some 11) 0 (Enc.cells x) = some (Enc.enc x) := Bj x rfl
theorem u6 (g : Nat) : BQ.box g [.d (.int 0), .d (.int 0), .d (.int 0), .d (.int 0), .d (.int 0), .d (.int 0), .d (.int 0), .d (.int 0), .d (.int 0), .d (.int 0), .d (.int 0)] = BQ.box g ((Enc.cells ((AL.mk (BS.mk 0 0) (BS.mk 0 0) (BS.mk 0 0) (BS.mk 0 0) 0 (BS.mk 0 0)) : AL)).map LV.d) := rfl
theorem nt : Enc.n AL = 11 := rfl
theorem Yo (x : AL) : A0 (some 2) 0 (Enc.cells x) = some (Enc.enc x.Low) := rfl
theorem vr : Enc.n BS = 2 := rfl
theorem sG (x : BS) : A0 none 0 (Enc.cells x) = some (.int x.Low) := rfl
theorem rQ (x : BS) : A0 none 1 (Enc.cells x) = some (.int x.High) := rfl
theorem Zj (x : AL) : A0 (some 2) 2 (Enc.cells x) = some (Enc.enc x.High) := rfl
theorem Yy (x : AL) : A0 (some 2) 4 (Enc.cells x) = some (Enc.enc x.Gain) := rfl
theorem iS (x : AL) : A0 none 8 (Enc.cells x) = some (.int x.Loss) := rfl
theorem Ya (x : AL) : A0 (some 2) 6 (Enc.cells x) = some (Enc.enc x.Turn) := rfl
theorem Y2 (x : AL) : A0 (some 2) 9 (Enc.cells x) = some (Enc.enc x.Break) := rfl
theorem Vi (x : AI) : A0 (some 4) 0 (Enc.cells x) = some (Enc.enc x) := Bj x rfl
theorem tU (g : Nat) : BQ.box g [.d (.int 0), .d (.int 0), .d (.int 0), .d (.int 0)] = BQ.box g ((Enc.cells ((AI.mk 0 0 0 0) : AI)).map LV.d) := rfl
theorem eo : Enc.n AI = 4 := rfl
theorem Ys (x : AI) : A0 none 0 (Enc.cells x) = some (.int x.Boy) := rfl
theorem ZE (x : AI) : A0 none 1 (Enc.cells x) = some (.int x.Week) := rfl
theorem Y0 (x : AI) : A0 none 2 (Enc.cells x) = some (.int x.Note) := rfl
theorem Yu (x : AI) : A0 none 3 (Enc.cells x) = some (.int x.Sang) := rfl
theorem OL (g : Nat) : BQ.box g [.d (.nils), .d (.int 0), .d (.nils), .d (.nils), .d (.nilmap)] = BQ.box g ((Enc.cells ((AA.mk (VoiceBook.mk (Sl.nil : (Sl AL)) 0 (Sl.nil : (Sl AI))) (Sl.nil : (Sl (Sl (Ar 5 Int)))) (Mp.nil : (Mp 2 (Sl (Ar 5 Int))))) : AA)).map LV.d) := rfl
theorem eE : Enc.n AA = 5 := rfl
theorem ON (a0 : BS) (a1 : BS) (a2 : BS) (a3 : BS) (a4 : BS) : Ej [.int 0, .int 0, .int 0, .int 0, .int 0, .int 0, .int 0, .int 0, .int 0, .int 0] [(0, 2, .d (Enc.enc a0)), (2, 2, .d (Enc.enc a1)), (4, 2, .d (Enc.enc a2)), (6, 2, .d (Enc.enc a3)), (8, 2, .d (Enc.enc a4))] = some (.d (Enc.enc (⟨[a0, a1, a2, a3, a4], rfl⟩ : (Ar 5 BS)))) := rfl
theorem uh (g : Nat) : BQ.box g [.d (.int 0), .d (.int 0), .d (.int 0), .d (.int 0), .d (.int 0), .d (.int 0), .d (.int 0), .d (.int 0), .d (.int 0), .d (.int 0)] = BQ.box g ((Enc.cells ((⟨List.replicate 5 (BS.mk 0 0), rfl⟩ : (Ar 5 BS)) : (Ar 5 BS))).map LV.d) := rfl
theorem js : Enc.n (Ar 5 BS) = 10 := rfl
theorem mm : Enc.n (Ar 5 Int) = 5 := rfl
theorem qh (g : Nat) : BQ.box g [.d (.int 0), .d (.int 0)] = BQ.box g ((Enc.cells ((BS.mk 0 0) : BS)).map LV.d) := rfl
theorem Y1 (x : (Ar 5 Int)) : A0 (some 5) 0 (Enc.cells x) = some (Enc.enc x) := Bj x rfl
theorem ut (a0 : Int) : VR none [.int 0] 1 [(0, 1, .d (.int a0))] = some (Sl.lv (Sl.hot [a0] : Sl Int)) := rfl
theorem vM (g : Nat) : BQ.box g [.d (.int 0), .d (.int 0), .d (.int 0), .d (.int 0), .d (.int 0)] = BQ.box g ((Enc.cells ((⟨List.replicate 5 0, rfl⟩ : (Ar 5 Int)) : (Ar 5 Int))).map LV.d) := rfl
theorem dD (a0 : (Ar 5 Int)) : VR (some 5) [.int 0, .int 0, .int 0, .int 0, .int 0] 1 [(0, 5, .d (Enc.enc a0))] = some (Sl.lv (Sl.hot [a0] : Sl (Ar 5 Int))) := KJ [a0] rfl rfl
theorem KN (a0 : Int) (a1 : Int) : Ej [.int 0, .int 0] [(0, 1, .d (.int a0)), (1, 1, .d (.int a1))] = some (.d (Enc.enc (Ab.mk a0 a1))) := rfl
theorem fE (g : Nat) : BQ.box g [.d (.int 0), .d (.int 0)] = BQ.box g ((Enc.cells ((Ab.mk 0 0) : Ab)).map LV.d) := rfl
theorem gQ : Enc.n Ab = 2 := rfl
theorem Vt (x : Ab) : A0 (some 2) 0 (Enc.cells x) = some (Enc.enc x) := Bj x rfl
theorem UH (a0 : (Sl (Ar 5 Int))) : VR none [.nils] 1 [(0, 1, Sl.lv (Sl.spent a0))] = some (Sl.lv (Sl.hot [a0] : Sl (Sl (Ar 5 Int)))) := by cases a0 <;> rfl
theorem YY (x : AA) : A0 none 3 (Enc.cells x) = some (Enc.enc x.truths) := rfl
theorem ig (g : Nat) : BQ.box g [.d (.nils), .d (.int 0), .d (.nils)] = BQ.box g ((Enc.cells ((VoiceBook.mk (Sl.nil : (Sl AL)) 0 (Sl.nil : (Sl AI))) : VoiceBook)).map LV.d) := rfl
theorem bi (x : VoiceBook) (v : (Sl AL)) : DD 1 0 ([.d (Enc.enc v)]) ((Enc.cells x).map LV.d) = some ((Enc.cells (VoiceBook.mk v x.Weeks x.Trials)).map LV.d) := by cases v <;> rfl
theorem UC (x : VoiceBook) : DD 1 2 [.d .nils] ((Enc.cells x).map LV.d) = some ((Enc.cells (VoiceBook.mk x.Boys x.Weeks (Sl.nil : (Sl AI)))).map LV.d) := rfl
theorem nU  : VR none [.int 0] 0 [] = some (Sl.lv (Sl.hot [] : Sl Int)) := rfl
theorem jv  : VR (some 2) [.int 0, .int 0] 0 [] = some (Sl.lv (Sl.hot [] : Sl BS)) := rfl
theorem Uh (a0 : Int) (a1 : Int) : Ej [.int 0, .int 0] [(0, 1, .d (.int a0)), (1, 1, .d (.int a1))] = some (.d (Enc.enc (BS.mk a0 a1))) := rfl
theorem oq (a0 : BS) : VR (some 2) [.int 0, .int 0] 1 [(0, 2, .d (Enc.enc a0))] = some (Sl.lv (Sl.hot [a0] : Sl BS)) := KJ [a0] rfl rfl
theorem Ph  : Ej [.nils, .int 0, .nils] [(1, 1, .d (.int 2))] = some (.d (Enc.enc (VoiceBook.mk (Sl.nil : (Sl AL)) 2 (Sl.nil : (Sl AI))))) := rfl
theorem Iy  : VR none [.int 0] 3 [(0, 1, .d (.int 5)), (1, 1, .d (.int 8)), (2, 1, .d (.int 2))] = some (Sl.lv (Sl.hot [5, 8, 2] : Sl Int)) := rfl
theorem Hm  : VR none [.int 0] 3 [(0, 1, .d (.int 15)), (1, 1, .d (.int 20)), (2, 1, .d (.int 10))] = some (Sl.lv (Sl.hot [15, 20, 10] : Sl Int)) := rfl
theorem QU (a0 : BS) (a1 : BS) (a5 : BS) : Ej [.int 0, .int 0, .int 0, .int 0, .int 0, .int 0, .int 0, .int 0, .int 0, .int 0, .int 0] [(0, 2, .d (Enc.enc a0)), (2, 2, .d (Enc.enc a1)), (9, 2, .d (Enc.enc a5))] = some (.d (Enc.enc (AL.mk a0 a1 (BS.mk 0 0) (BS.mk 0 0) 0 a5))) := rfl
theorem a7 (a0 : AL) : VR (some 11) [.int 0, .int 0, .int 0, .int 0, .int 0, .int 0, .int 0, .int 0, .int 0, .int 0, .int 0] 1 [(0, 11, .d (Enc.enc a0))] = some (Sl.lv (Sl.hot [a0] : Sl AL)) := KJ [a0] rfl rfl
theorem mS (x : BS) : A0 (some 2) 0 (Enc.cells x) = some (Enc.enc x) := Bj x rfl
theorem Vm (x : AA) : A0 (some 5) 0 (Enc.cells x) = some (Enc.enc x) := Bj x rfl
theorem S9  : Ej [.nils, .int 0, .nils, .nils, .nilmap] [] = some (.d (Enc.enc (AA.mk (VoiceBook.mk (Sl.nil : (Sl AL)) 0 (Sl.nil : (Sl AI))) (Sl.nil : (Sl (Sl (Ar 5 Int)))) (Mp.nil : (Mp 2 (Sl (Ar 5 Int))))))) := rfl
theorem dk (g : Nat) : BQ.box g [.d (.int 0), .d (.int 0)] = BQ.box g ((Enc.cells ((AY.mk 0 0) : AY)).map LV.d) := rfl
theorem VM (a1 : Int) : Ej [.int 0, .int 0] [(1, 1, .d (.int a1))] = some (.d (Enc.enc (AY.mk 0 a1))) := rfl
theorem dE : Enc.n AY = 2 := rfl
theorem Y6 (x : AA) : A0 none 4 (Enc.cells x) = some (Enc.enc x.whole) := rfl
theorem ZW (x : AA) : A0 none 0 (Enc.cells x) = some (Enc.enc x.VoiceBook.Boys) := rfl
theorem YJ (x : AY) : A0 none 0 (Enc.cells x) = some (.int x.so) := rfl
theorem Xz (x : AY) (v : Int) : DD 1 0 ([.d (.int v)]) ((Enc.cells x).map LV.d) = some ((Enc.cells (AY.mk v x.of_)).map LV.d) := rfl
theorem UO (x : AY) : A0 (some 2) 0 (Enc.cells x) = some (Enc.enc x) := Bj x rfl
theorem WV (x : AY) : A0 none 1 (Enc.cells x) = some (.int x.of_) := rfl
theorem dA  : VR none [.int 0] 1 [(0, 1, .d (.int 1))] = some (Sl.lv (Sl.hot [1] : Sl Int)) := rfl
theorem je (g : Nat) : BQ.box g [.d (.nils), .d (.int 0), .d (.nils), .d (.nils), .d (.int 0)] = BQ.box g ((Enc.cells ((BenchBook.mk (VoiceBook.mk (Sl.nil : (Sl AL)) 0 (Sl.nil : (Sl AI))) (Sl.nil : (Sl AK)) 0) : BenchBook)).map LV.d) := rfl
theorem M7 (a0 : VoiceBook) : Ej [.nils, .int 0, .nils, .nils, .int 0] [(0, 3, .d (Enc.enc a0)), (4, 1, .d (.int 3))] = some (.d (Enc.enc (BenchBook.mk a0 (Sl.nil : (Sl AK)) 3))) := rfl
theorem i9 : Enc.n BenchBook = 5 := rfl
theorem MA (a0 : BS) : Ej [.int 0, .int 0, .int 0] [(0, 2, .d (Enc.enc a0)), (2, 1, .d (.int 1))] = some (.d (Enc.enc (A7.mk a0 1))) := rfl
theorem ZA (a0 : A7) : VR (some 3) [.int 0, .int 0, .int 0] 1 [(0, 3, .d (Enc.enc a0))] = some (Sl.lv (Sl.hot [a0] : Sl A7)) := KJ [a0] rfl rfl
theorem TB (a0 : Int) (a1 : (Sl A7)) : Ej [.int 0, .nils] [(0, 1, .d (.int a0)), (1, 1, .d (Enc.enc a1))] = some (.d (Enc.enc (AK.mk a0 a1))) := by cases a1 <;> rfl
theorem YL (a0 : AK) : VR (some 2) [.int 0, .nils] 1 [(0, 2, .d (Enc.enc a0))] = some (Sl.lv (Sl.hot [a0] : Sl AK)) := KJ [a0] rfl rfl
theorem Xe (x : BenchBook) : A0 (some 5) 0 (Enc.cells x) = some (Enc.enc x) := Bj x rfl
theorem dT (x : BenchBook) : A0 none 3 (Enc.cells x) = some (Enc.enc x.Pieces) := rfl
theorem ZG (x : AK) : A0 none 1 (Enc.cells x) = some (Enc.enc x.Parts) := rfl
theorem Ia (g : Nat) : BQ.box g [.d (.nils), .d (.int 0), .d (.nils), .d (.nils), .d (.int 0), .d (.nilmap)] = BQ.box g ((Enc.cells ((AB.mk (BenchBook.mk (VoiceBook.mk (Sl.nil : (Sl AL)) 0 (Sl.nil : (Sl AI))) (Sl.nil : (Sl AK)) 0) (Mp.nil : (Mp 2 (Sl Int)))) : AB)).map LV.d) := rfl
theorem X9 (x : BenchBook) : A0 (some 3) 0 (Enc.cells x) = some (Enc.enc x.Voice) := rfl
theorem dj (x : BenchBook) : A0 none 4 (Enc.cells x) = some (.int x.Most) := rfl
theorem VW (x : AK) : A0 (some 2) 0 (Enc.cells x) = some (Enc.enc x) := Bj x rfl
theorem sx (g : Nat) : BQ.box g [.d (.int 0), .d (.nils)] = BQ.box g ((Enc.cells ((AK.mk 0 (Sl.nil : (Sl A7))) : AK)).map LV.d) := rfl
theorem ge : Enc.n AK = 2 := rfl
theorem Y7 (x : AK) : A0 none 0 (Enc.cells x) = some (.int x.Week) := rfl
theorem dW (x : BenchBook) : A0 none 1 (Enc.cells x) = some (.int x.Voice.Weeks) := rfl
theorem Xh (x : A7) : A0 (some 3) 0 (Enc.cells x) = some (Enc.enc x) := Bj x rfl
theorem u0 (g : Nat) : BQ.box g [.d (.int 0), .d (.int 0), .d (.int 0)] = BQ.box g ((Enc.cells ((A7.mk (BS.mk 0 0) 0) : A7)).map LV.d) := rfl
theorem jA : Enc.n A7 = 3 := rfl
theorem cT (x : A7) : A0 none 0 (Enc.cells x) = some (.int x.Notes.Low) := rfl
theorem b9 (x : A7) : A0 none 1 (Enc.cells x) = some (.int x.Notes.High) := rfl
theorem dI (x : A7) : A0 none 2 (Enc.cells x) = some (.int x.Many) := rfl
theorem XK (g : Nat) : BQ.box g [.d (.nilfn)] = BQ.box g ((Enc.cells ((En.mk Fv.nil) : En)).map LV.d) := rfl
theorem Ic  : Ej [.nilfn] [(0, 1, .d (.fn 71 [] []))] = some (.d (Enc.enc (En.mk (Fv.mk 71 [] [])))) := rfl
theorem Wm : Enc.n En = 1 := rfl
theorem eM : Enc.n AB = 6 := rfl
theorem FS (a0 : Int) (a1 : Int) : Ej [.int 0, .int 0] [(0, 1, .d (.int a0)), (1, 1, .d (.int a1))] = some (.d (Enc.enc (AG.mk a0 a1))) := rfl
theorem te (g : Nat) : BQ.box g [.d (.int 0), .d (.int 0)] = BQ.box g ((Enc.cells ((AG.mk 0 0) : AG)).map LV.d) := rfl
theorem eL : Enc.n AG = 2 := rfl
theorem cB (x : BenchBook) : A0 none 0 (Enc.cells x) = some (Enc.enc x.Voice.Boys) := rfl
theorem Vh (x : AG) : A0 (some 2) 0 (Enc.cells x) = some (Enc.enc x) := Bj x rfl
theorem Zc (x : AG) : A0 none 0 (Enc.cells x) = some (.int x.piece) := rfl
theorem Zg (x : AG) : A0 none 1 (Enc.cells x) = some (.int x.part) := rfl
theorem X8 (x : A7) : A0 (some 2) 0 (Enc.cells x) = some (Enc.enc x.Notes) := rfl
theorem NQ  : Ej [.nils, .int 0, .nils, .nils, .int 0, .nilmap] [] = some (.d (Enc.enc (AB.mk (BenchBook.mk (VoiceBook.mk (Sl.nil : (Sl AL)) 0 (Sl.nil : (Sl AI))) (Sl.nil : (Sl AK)) 0) (Mp.nil : (Mp 2 (Sl Int)))))) := rfl
theorem Yq (x : AB) : A0 none 5 (Enc.cells x) = some (Enc.enc x.able) := rfl
theorem bK  : VR none [.int 0] 1 [(0, 1, .d (.int 0))] = some (Sl.lv (Sl.hot [0] : Sl Int)) := rfl
theorem VG (x : AB) : A0 (some 6) 0 (Enc.cells x) = some (Enc.enc x) := Bj x rfl
theorem Yx (x : AB) : A0 none 3 (Enc.cells x) = some (Enc.enc x.BenchBook.Pieces) := rfl
theorem Jq (a0 : AG) (a1 : Int) : Ej [.int 0, .int 0, .int 0, .int 0] [(0, 2, .d (Enc.enc a0)), (2, 1, .d (.int a1)), (3, 1, .d (.int 0))] = some (.d (Enc.enc (AD.mk a0 a1 0))) := rfl
theorem X3 (a0 : AD) : VR (some 4) [.int 0, .int 0, .int 0, .int 0] 1 [(0, 4, .d (Enc.enc a0))] = some (Sl.lv (Sl.hot [a0] : Sl AD)) := KJ [a0] rfl rfl
theorem Xv (g : Nat) : BQ.box g [.d (.int 0), .d (.int 0), .d (.int 0), .d (.int 0), .d (.int 0), .d (.int 0), .d (.int 0), .d (.int 0), .d (.int 0), .d (.int 0), .d (.int 0), .d (.int 0), .d (.int 0), .d (.int 0), .d (.int 0), .d (.int 0), .d (.int 0), .d (.int 0), .d (.int 0), .d (.int 0), .d (.int 0), .d (.int 0), .d (.int 0), .d (.int 0)] = BQ.box g ((Enc.cells ((⟨List.replicate 24 0, rfl⟩ : (Ar 24 Int)) : (Ar 24 Int))).map LV.d) := rfl
theorem Xo (x : (Ar 24 Int)) : A0 (some 24) 0 (Enc.cells x) = some (Enc.enc x) := Bj x rfl
theorem jT : Enc.n (Ar 24 Int) = 24 := rfl
theorem ZN (x : AD) : A0 none 2 (Enc.cells x) = some (.int x.many) := rfl
theorem Vu (x : AD) : A0 (some 4) 0 (Enc.cells x) = some (Enc.enc x) := Bj x rfl
theorem tp (g : Nat) : BQ.box g [.d (.int 0), .d (.int 0), .d (.int 0), .d (.int 0)] = BQ.box g ((Enc.cells ((AD.mk (AG.mk 0 0) 0 0) : AD)).map LV.d) := rfl
theorem ev : Enc.n AD = 4 := rfl
theorem VL (x : AD) : A0 (some 2) 0 (Enc.cells x) = some (Enc.enc x.at_) := rfl
theorem Y3 (x : AD) : A0 none 3 (Enc.cells x) = some (.int x.from_) := rfl
theorem Yr (x : AD) : A0 none 0 (Enc.cells x) = some (.int x.at_.piece) := rfl
theorem XY (x : AC) : A0 (some 3) 0 (Enc.cells x) = some (Enc.enc x) := Bj x rfl
theorem jy : Enc.n AC = 3 := rfl
theorem cu (x : AC) : A0 none 0 (Enc.cells x) = some (.int x.Piece) := rfl
theorem cJ (x : AC) : A0 none 2 (Enc.cells x) = some (.int x.Boy) := rfl
theorem Yz (x : AB) : A0 none 4 (Enc.cells x) = some (.int x.BenchBook.Most) := rfl
theorem OT (a0 : AG) (a1 : Int) (a2 : Int) : Ej [.int 0, .int 0, .int 0, .int 0] [(0, 2, .d (Enc.enc a0)), (2, 1, .d (.int a1)), (3, 1, .d (.int a2))] = some (.d (Enc.enc (AD.mk a0 a1 a2))) := rfl
theorem Yp (x : AD) : A0 none 1 (Enc.cells x) = some (.int x.at_.part) := rfl
theorem Pm (a0 : Int) (a1 : Int) (a2 : Int) : Ej [.int 0, .int 0, .int 0] [(0, 1, .d (.int a0)), (1, 1, .d (.int a1)), (2, 1, .d (.int a2))] = some (.d (Enc.enc (AC.mk a0 a1 a2))) := rfl
theorem Zb (a0 : AC) : VR (some 3) [.int 0, .int 0, .int 0] 1 [(0, 3, .d (Enc.enc a0))] = some (Sl.lv (Sl.hot [a0] : Sl AC)) := KJ [a0] rfl rfl
theorem Ot  : VR none [.int 0] 2 [(0, 1, .d (.int 0)), (1, 1, .d (.int 1))] = some (Sl.lv (Sl.hot [0, 1] : Sl Int)) := rfl
theorem pG (a0 : BS) (a1 : BS) : VR (some 2) [.int 0, .int 0] 2 [(0, 2, .d (Enc.enc a0)), (2, 2, .d (Enc.enc a1))] = some (Sl.lv (Sl.hot [a0, a1] : Sl BS)) := KJ [a0, a1] rfl rfl
theorem OF  : VR none [.int 0] 2 [(0, 1, .d (.int 3)), (1, 1, .d (.int 2))] = some (Sl.lv (Sl.hot [3, 2] : Sl Int)) := rfl
theorem mb (g : Nat) : BQ.box g [.d (.int 0), .d (.nils), .d (.int 0), .d (.int 0), .d (.int 0), .d (.nils)] = BQ.box g ((Enc.cells ((Aq.mk 0 (Sl.nil : (Sl BS)) 0 0 0 (Sl.nil : (Sl JK))) : Aq)).map LV.d) := rfl
theorem IZ  : Ej [.int 0, .nils, .int 0, .int 0, .int 0, .nils] [(0, 1, .d (.int 1)), (3, 1, .d (.int 255))] = some (.d (Enc.enc (Aq.mk 1 (Sl.nil : (Sl BS)) 0 255 0 (Sl.nil : (Sl JK))))) := rfl
theorem nB : Enc.n Aq = 6 := rfl
theorem It  : VR none [.int 0] 3 [(0, 1, .d (.int 0)), (1, 1, .d (.int 1)), (2, 1, .d (.int 2))] = some (Sl.lv (Sl.hot [0, 1, 2] : Sl Int)) := rfl
theorem VS  : VR (some 3) [.int 0, .int 0, .int 0] 0 [] = some (Sl.lv (Sl.hot [] : Sl AC)) := rfl
theorem TS (a0 : Int) (a2 : Int) : Ej [.int 0, .int 0, .int 0] [(0, 1, .d (.int a0)), (2, 1, .d (.int a2))] = some (.d (Enc.enc (AC.mk a0 0 a2))) := rfl
theorem nG : Enc.n (Ar 4 Int) = 4 := rfl
theorem Zh (a2 : Int) : Ej [.int 0, .int 0, .int 0] [(2, 1, .d (.int a2))] = some (.d (Enc.enc (AC.mk 0 0 a2))) := rfl
def AA.lc (e : AA) (j t g : Nat) : List LV := [.d (Enc.enc e.VoiceBook.Boys), .d (.int e.VoiceBook.Weeks), .d (Enc.enc e.VoiceBook.Trials), .d (Enc.enc e.truths), .mref j t g]
def AB.lc (e : AB) (j t g : Nat) : List LV := [.d (Enc.enc e.BenchBook.Voice.Boys), .d (.int e.BenchBook.Voice.Weeks), .d (Enc.enc e.BenchBook.Voice.Trials), .d (Enc.enc e.BenchBook.Pieces), .d (.int e.BenchBook.Most), .mref j t g]
def AV (e : AA) (j t g : Nat) : List LV := [.d (Enc.enc e.VoiceBook.Boys), .d (.int e.VoiceBook.Weeks), .d (Enc.enc e.VoiceBook.Trials), Sl.lv (Sl.unf e.truths), .mref j t g]
def B5 (e : VoiceBook) : List LV := [Sl.lv (Sl.unf e.Boys), .d (.int e.Weeks), .d (Enc.enc e.Trials)]
def B0 (e : BenchBook) : List LV := [.d (Enc.enc e.Voice.Boys), .d (.int e.Voice.Weeks), .d (Enc.enc e.Voice.Trials), Sl.lv (Sl.unf e.Pieces), .d (.int e.Most)]
def CP (e : Aq) : List LV := [.d (.int e.Notes), Sl.lv (Sl.unf e.Voices), .d (.int e.Step), .d (.int e.Chords), .d (.int e.Perfect), .d (Enc.enc e.Copies)]
theorem SG (a0 : VoiceBook) (j t g : Nat) : Ej [.nils, .int 0, .nils, .nils, .nilmap] [(0, 3, .d (Enc.enc a0)), (4, 1, .mref j t g)] = some (.agg (AA.lc (AA.mk a0 (Sl.nil : (Sl (Sl (Ar 5 Int)))) (Mp.nil : (Mp 2 (Sl (Ar 5 Int))))) j t g)) := rfl
theorem K8 (e : AA) (j t g : Nat) (cs : List LV) (h : cs.length = 5) : DD 5 0 (AA.lc e j t g) cs = some (AA.lc e j t g) := VF h rfl (by simp only [AA.lc, List.all_cons, List.all_nil, NS, NT, NV, I5, Gq, V2, Bool.and_self])
theorem CH (e : AA) (j t g : Nat) : part (some 5) 0 (AA.lc e j t g) = some (.agg (AA.lc e j t g)) := rfl
theorem GI (e : AA) (j t g : Nat) : an 5 (.agg (AA.lc e j t g)) = some (AA.lc e j t g) := by
 simp only [an, UG]
 rw [if_pos ⟨rfl, by simp only [AA.lc, List.all_cons, List.all_nil, NS, NT, NV, I5, Gq, V2, Bool.and_self]⟩]
theorem UI (e : AA) (j t g : Nat) : part (some 5) 0 (AA.lc e j t g) = some (.agg (AA.lc e j t g)) := rfl
theorem SA (e : AA) (j t g : Nat) (r : List LV) : AZ (.agg (AA.lc e j t g) :: r) = none := rfl
theorem Wp (e : AA) (j t g : Nat) : part none 0 (AA.lc e j t g) = some (.d (Enc.enc e.VoiceBook.Boys)) := rfl
theorem Q6 (e : AA) (j t g : Nat) : part none 2 (AA.lc e j t g) = some (.d (Enc.enc e.VoiceBook.Trials)) := rfl
theorem Qj (e : AA) (j t g : Nat) : part none 0 (AA.lc e j t g) = some (.d (Enc.enc e.VoiceBook.Boys)) := rfl
theorem jD (e : AA) (j t g : Nat) : part none 4 (AA.lc e j t g) = some (.mref j t g) := rfl
theorem kw {e : AA} {j t g : Nat} {v : (Sl (Sl (Ar 5 Int)))} (h : v.lv = v.unf.lv) : DD 1 3 [v.lv] (AA.lc e j t g) = some (AV (AA.mk e.VoiceBook v e.whole) j t g) := by
 cases v <;> first | rfl | (cases h)
theorem HC (e : AA) (j t g : Nat) : part (some 5) 0 (AV e j t g) = some (.agg (AA.lc e j t g)) := by
 cases h0 : e.truths <;> first | rfl | (simp only [AA.lc, AV, h0]; rfl) | (simp only [AA.lc, AV, h0])
theorem Nu (e : AA) (j t g : Nat) : part none 4 (AV e j t g) = some (.mref j t g) := rfl
theorem Om (e : AA) (j t g : Nat) : List.set (AV e j t g) 3 (.d (Enc.enc e.truths)) = (AV (AA.mk e.VoiceBook e.truths.cool e.whole) j t g) := by
 cases h0 : e.truths <;> first | rfl | (simp only [AA.lc, AV, h0]; rfl) | (simp only [AA.lc, AV, h0])
theorem Ox {e : AA} {j t g : Nat} {v : (Sl (Sl (Ar 5 Int)))} (h : v.lv = v.unf.lv) : DD 1 3 [v.lv] (AV e j t g) = some (AV (AA.mk e.VoiceBook v e.whole) j t g) := by
 cases v <;> first | rfl | (cases h)
theorem UU {s : St} {t tm g gm : Nat} {e : AA} {es : List (List Int × (Sl (Ar 5 Int)))} (h : s.raw t = some (.box g (AA.lc e s.low.length tm gm))) (hm : s.raw tm = some (.mapo gm 2 (D1 es))) : U4 s (t, some (some 5)) = some (.d (Enc.enc ((AA.mk e.VoiceBook e.truths (Mp.mk es))))) := by
 simp only [St.raw] at h hm
 have hc : (AA.lc e s.low.length tm gm).map LV.copy = AA.lc e s.low.length tm gm := rfl
 have hl : (AA.lc e s.low.length tm gm).length = 5 := rfl
 have hn : LV.norm (.agg (AA.lc e s.low.length tm gm)) = .agg (AA.lc e s.low.length tm gm) := rfl
 simp only [U4, Db, h, hl, if_true, hc, hn, Option.bind_some]
 show (((AA.lc e s.low.length tm gm).mapM (freeze s.low.length s.env 8)).map fun cs => LV.norm (.agg cs)) = _
 simp only [AA.lc, List.mapM_cons, List.mapM_nil, kf, aR _ _ _ _ _ _ _ hm]
 rfl
theorem S1 (e : AA) (j t g : Nat) : (AA.lc e j t g) = (AV (AA.mk e.VoiceBook e.truths.cool e.whole) j t g) := by
 cases h0 : e.truths <;> first | rfl | (simp only [AA.lc, AV, h0]; rfl) | (simp only [AA.lc, AV, h0])
theorem nr {e : VoiceBook} {v : (Sl AL)} (h : v.lv = v.unf.lv) : DD 1 0 [v.lv] ((Enc.cells e).map LV.d) = some (B5 (VoiceBook.mk v e.Weeks e.Trials)) := by
 cases v <;> first | rfl | (cases h)
theorem PZ (e : VoiceBook) : List.set (B5 e) 0 (.d (Enc.enc e.Boys)) = (B5 (VoiceBook.mk e.Boys.cool e.Weeks e.Trials)) := by
 obtain ⟨z, _, _⟩ := e
 cases z <;> rfl
theorem PY {e : VoiceBook} {v : (Sl AL)} (h : v.lv = v.unf.lv) : DD 1 0 [v.lv] (B5 e) = some (B5 (VoiceBook.mk v e.Weeks e.Trials)) := by
 cases v <;> first | rfl | (cases h)
theorem MH (e : VoiceBook) : part (some 3) 0 (B5 e) = some (.d (Enc.enc e)) := by
 obtain ⟨z, _, _⟩ := e
 cases z <;> rfl
theorem TX (e : VoiceBook) : ((Enc.cells e).map LV.d) = (B5 (VoiceBook.mk e.Boys.cool e.Weeks e.Trials)) := by
 obtain ⟨z, _, _⟩ := e
 cases z <;> rfl
theorem mh {e : BenchBook} {v : (Sl AK)} (h : v.lv = v.unf.lv) : DD 1 3 [v.lv] ((Enc.cells e).map LV.d) = some (B0 (BenchBook.mk e.Voice v e.Most)) := by
 cases v <;> first | rfl | (cases h)
theorem Pv (e : BenchBook) : List.set (B0 e) 3 (.d (Enc.enc e.Pieces)) = (B0 (BenchBook.mk e.Voice e.Pieces.cool e.Most)) := by
 obtain ⟨_, z, _⟩ := e
 cases z <;> rfl
theorem PX {e : BenchBook} {v : (Sl AK)} (h : v.lv = v.unf.lv) : DD 1 3 [v.lv] (B0 e) = some (B0 (BenchBook.mk e.Voice v e.Most)) := by
 cases v <;> first | rfl | (cases h)
theorem MM (e : BenchBook) : part (some 5) 0 (B0 e) = some (.d (Enc.enc e)) := by
 obtain ⟨_, z, _⟩ := e
 cases z <;> rfl
theorem UK (e : BenchBook) : ((Enc.cells e).map LV.d) = (B0 (BenchBook.mk e.Voice e.Pieces.cool e.Most)) := by
 obtain ⟨_, z, _⟩ := e
 cases z <;> rfl
theorem SV (a0 : BenchBook) (j t g : Nat) : Ej [.nils, .int 0, .nils, .nils, .int 0, .nilmap] [(0, 5, .d (Enc.enc a0)), (5, 1, .mref j t g)] = some (.agg (AB.lc (AB.mk a0 (Mp.nil : (Mp 2 (Sl Int)))) j t g)) := rfl
theorem GG (e : AB) (j t g : Nat) (cs : List LV) (h : cs.length = 6) : DD 6 0 (AB.lc e j t g) cs = some (AB.lc e j t g) := VF h rfl (by simp only [AB.lc, List.all_cons, List.all_nil, NS, NT, NV, I5, Gq, V2, Bool.and_self])
theorem D7 (e : AB) (j t g : Nat) : part (some 6) 0 (AB.lc e j t g) = some (.agg (AB.lc e j t g)) := rfl
theorem KW (e : AB) (j t g : Nat) (r : List LV) : AZ (.agg (AB.lc e j t g) :: r) = none := rfl
theorem UP (e : AB) (j t g : Nat) : an 6 (.agg (AB.lc e j t g)) = some (AB.lc e j t g) := by
 simp only [an, UG]
 rw [if_pos ⟨rfl, by simp only [AB.lc, List.all_cons, List.all_nil, NS, NT, NV, I5, Gq, V2, Bool.and_self]⟩]
theorem QM (e : AB) (j t g : Nat) : part none 3 (AB.lc e j t g) = some (.d (Enc.enc e.BenchBook.Pieces)) := rfl
theorem OE (e : AB) (j t g : Nat) : part (some 3) 0 (AB.lc e j t g) = some (.d (Enc.enc e.BenchBook.Voice)) := rfl
theorem J4 (e : AB) (j t g : Nat) : part none 5 (AB.lc e j t g) = some (.mref j t g) := rfl
theorem Lx {s : St} {t tm g gm : Nat} {e : AB} {es : List (List Int × (Sl Int))} (h : s.raw t = some (.box g (AB.lc e s.low.length tm gm))) (hm : s.raw tm = some (.mapo gm 2 (D1 es))) : U4 s (t, some (some 6)) = some (.d (Enc.enc ((AB.mk e.BenchBook (Mp.mk es))))) := by
 simp only [St.raw] at h hm
 have hc : (AB.lc e s.low.length tm gm).map LV.copy = AB.lc e s.low.length tm gm := rfl
 have hl : (AB.lc e s.low.length tm gm).length = 6 := rfl
 have hn : LV.norm (.agg (AB.lc e s.low.length tm gm)) = .agg (AB.lc e s.low.length tm gm) := rfl
 simp only [U4, Db, h, hl, if_true, hc, hn, Option.bind_some]
 show (((AB.lc e s.low.length tm gm).mapM (freeze s.low.length s.env 8)).map fun cs => LV.norm (.agg cs)) = _
 simp only [AB.lc, List.mapM_cons, List.mapM_nil, kf, aR _ _ _ _ _ _ _ hm]
 rfl
theorem nv {e : Aq} {v : (Sl BS)} (h : v.lv = v.unf.lv) : DD 1 1 [v.lv] ((Enc.cells e).map LV.d) = some (CP (Aq.mk e.Notes v e.Step e.Chords e.Perfect e.Copies)) := by
 cases v <;> first | rfl | (cases h)
theorem Qa (e : Aq) : List.set (CP e) 1 (.d (Enc.enc e.Voices)) = (CP (Aq.mk e.Notes e.Voices.cool e.Step e.Chords e.Perfect e.Copies)) := by
 obtain ⟨_, z, _, _, _, _⟩ := e
 cases z <;> rfl
theorem Qc {e : Aq} {v : (Sl BS)} (h : v.lv = v.unf.lv) : DD 1 1 [v.lv] (CP e) = some (CP (Aq.mk e.Notes v e.Step e.Chords e.Perfect e.Copies)) := by
 cases v <;> first | rfl | (cases h)
theorem Np (e : Aq) : part (some 6) 0 (CP e) = some (.d (Enc.enc e)) := by
 obtain ⟨_, z, _, _, _, _⟩ := e
 cases z <;> rfl
theorem VH (e : Aq) : ((Enc.cells e).map LV.d) = (CP (Aq.mk e.Notes e.Voices.cool e.Step e.Chords e.Perfect e.Copies)) := by
 obtain ⟨_, z, _, _, _, _⟩ := e
 cases z <;> rfl
def ps := And.intro @Bool.true_beq <| And.intro @Bool.false_beq <| And.intro @Bool.true_bne <| And.intro @Bool.false_bne <| And.intro @beq_true <| And.intro @beq_false <| And.intro @Bool.bne_true <| And.intro @Bool.bne_false <| And.intro @ON <| And.intro @M7 <| And.intro @MA <| And.intro @TB <| And.intro @QU <| And.intro @SV <| And.intro @Jq <| And.intro @OT <| And.intro @SG <| And.intro @dD <| And.intro @ZA <| And.intro @YL <| And.intro @Zb <| And.intro @bK <| And.intro @Ot <| And.intro @It <| And.intro @dA <| And.intro @Hm <| And.intro @OF <| And.intro @Iy <| And.intro @ut <| And.intro @nU <| And.intro @UH <| And.intro @oq <| And.intro @pG <| And.intro @a7 <| And.intro @X3 <| And.intro @jT <| And.intro @nG <| And.intro @mm <| And.intro @js <| And.intro @i9 <| And.intro @jA <| And.intro @ge <| And.intro @jy <| And.intro @nB <| And.intro @vr <| And.intro @ij <| And.intro @nt <| And.intro @eo <| And.intro @eM <| And.intro @eL <| And.intro @ev <| And.intro @Wm <| And.intro @eE <| And.intro @gQ <| And.intro @dE <| And.intro @Xo <| And.intro @Y1 <| And.intro @cB <| And.intro @X9 <| And.intro @dW <| And.intro @dT <| And.intro @dj <| And.intro @Xe <| And.intro @cT <| And.intro @X8 <| And.intro @b9 <| And.intro @dI <| And.intro @Xh <| And.intro @Y7 <| And.intro @ZG <| And.intro @VW <| And.intro @cu <| And.intro @cJ <| And.intro @XY <| And.intro @sG <| And.intro @rQ <| And.intro @mS <| And.intro @bZ <| And.intro @cX <| And.intro @dl <| And.intro @WF <| And.intro @Yo <| And.intro @Zj <| And.intro @Yy <| And.intro @Ya <| And.intro @iS <| And.intro @Y2 <| And.intro @Yd <| And.intro @Ys <| And.intro @ZE <| And.intro @Y0 <| And.intro @Yu <| And.intro @Vi <| And.intro @Yx <| And.intro @Yz <| And.intro @Yq <| And.intro @VG <| And.intro @Zc <| And.intro @Zg <| And.intro @Vh <| And.intro @Yr <| And.intro @VL <| And.intro @Yp <| And.intro @ZN <| And.intro @Y3 <| And.intro @Vu <| And.intro @ZW <| And.intro @YY <| And.intro @Y6 <| And.intro @Vm <| And.intro @Vt <| And.intro @YJ <| And.intro @WV <| And.intro @UO <| And.intro @bi <| And.intro @UC <| And.intro @Xz trivial
section
variable {LP : A6} {ks : List ia} {J : Jmp → St → Prop} {s : St} {B : List Nat} {ops : List AH} {keep : List Nat} {low : List Fr} {l : Nat → Ip}
theorem Ra (hl : s.low = low) (hf : NoB B s) (h' : ∀ c s', Dn (l c) s' → s'.low = low → NoB B s' → Nx LP J s' 60 ks (.inl .normal)) (hB : ops.all (opB B) = true := by rfl)
 (h : ∀ c, kn keep (Lf.evalOps LP (om LP) c ops (s.atc c ops.length)) = some (l c, low) := by intro c; simp only [rt, ps, nob hf, *, reduceCtorEq, Nat.reduceEqDiff, Nat.reduceAdd, Nat.reduceMul] <;> rfl) : Run LP ks (.ops ops keep) s J := yA hl hf hB h h'
theorem Rx (d : Nat → Ip) (hl : s.low = low) (hf : NoB B s) (h' : ∀ c s', Dn (l c) s' → s'.low = low → NoB B s' → Nx LP J s' 60 ks (.inl .normal)) (hB : ops.all (opB B) = true := by rfl)
 (h0 : ∀ c, lk (d c) keep s = some (l c) := by intro c; (first | simp only [iD, Xq, WN, SS, Sv, r, if_true, if_false, Nat.reduceEqDiff] | simp only [iD, Xq, WN, SS, Sv, *, if_true, if_false, Nat.reduceEqDiff]); all_goals rfl)
 (h : ∀ c, kn keep (Lf.evalOps LP (om LP) c ops (s.atc c ops.length)) = some (l c, low) := by intro c; repeat' (simp only [rt, ps, nob hf, *, reduceCtorEq, Nat.reduceEqDiff, Nat.reduceAdd, Nat.reduceMul] <;> first | refine gdN (fun _ => ?_) fun _ => ?_ | refine gd (fun _ => ?_) fun _ => ?_)) : Run LP ks (.ops ops keep) s J := yA hl hf hB h h'
theorem Rq {α : Type} {o : Option α} {x : α} (d : Nat → Ip) (hl : s.low = low) (hf : NoB B s) (q : o = some x) (h' : ∀ c s', Dn (l c) s' → s'.low = low → NoB B s' → Nx LP J s' 60 ks (.inl .normal)) (hB : ops.all (opB B) = true := by rfl)
 (h0 : ∀ c, lk (d c) keep s = some (l c) := by intro c; (first | simp only [iD, Xq, WN, SS, Sv, r, if_true, if_false, Nat.reduceEqDiff] | simp only [iD, Xq, WN, SS, Sv, *, if_true, if_false, Nat.reduceEqDiff]); all_goals rfl)
 (h : ∀ c, kn keep (Lf.evalOps LP (om LP) c ops (s.atc c ops.length)) = some (l c, low) := by
  intro c; revert q; (repeat' (first | refine gb fun _ _ => ?_ | refine gi (fun _ => ?_) fun _ => ?_)); (all_goals (intro q; cases q)); all_goals (repeat' (simp only [rt, ps, nob hf, *, reduceCtorEq, Nat.reduceEqDiff, Nat.reduceAdd, Nat.reduceMul] <;> first | refine gdN (fun _ => ?_) fun _ => ?_ | refine gd (fun _ => ?_) fun _ => ?_))) : Run LP ks (.ops ops keep) s J := yA hl hf hB h h'
end
end Go.Lf
