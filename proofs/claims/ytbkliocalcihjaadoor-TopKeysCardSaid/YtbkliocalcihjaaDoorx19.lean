/- A part of the proof. -/
import Derived.Test.YtbkliocalcihjaaDoorx3
set_option linter.all false
namespace Go.Lf
open Go
structure BJ where
 Low : Int
 High : Int
 deriving DecidableEq
instance : Bj BJ := { n := 2, cells := fun x => [.int x.Low, .int x.High], enc := fun x => .agg [.int x.Low, .int x.High], law := fun _ => rfl, agg := fun _ => rfl, len := fun _ => rfl, ok := fun _ => rfl, key := fun x => [x.Low, x.High], hkey := fun _ => rfl }
structure AK where
 Low : BJ
 High : BJ
 Gain : BJ
 Turn : BJ
 Loss : Int
 Break : BJ
instance : Bj AK := { n := 11, cells := fun x => [.int x.Low.Low, .int x.Low.High, .int x.High.Low, .int x.High.High, .int x.Gain.Low, .int x.Gain.High, .int x.Turn.Low, .int x.Turn.High, .int x.Loss, .int x.Break.Low, .int x.Break.High], enc := fun x => .agg [.int x.Low.Low, .int x.Low.High, .int x.High.Low, .int x.High.High, .int x.Gain.Low, .int x.Gain.High, .int x.Turn.Low, .int x.Turn.High, .int x.Loss, .int x.Break.Low, .int x.Break.High], law := fun _ => rfl, agg := fun _ => rfl, len := fun _ => rfl, ok := fun _ => rfl, key := fun x => [x.Low.Low, x.Low.High, x.High.Low, x.High.High, x.Gain.Low, x.Gain.High, x.Turn.Low, x.Turn.High, x.Loss, x.Break.Low, x.Break.High], hkey := fun _ => rfl }
structure AI where
 Boy : Int
 Week : Int
 Note : Int
 Sang : Int
 deriving DecidableEq
instance : Bj AI := { n := 4, cells := fun x => [.int x.Boy, .int x.Week, .int x.Note, .int x.Sang], enc := fun x => .agg [.int x.Boy, .int x.Week, .int x.Note, .int x.Sang], law := fun _ => rfl, agg := fun _ => rfl, len := fun _ => rfl, ok := fun _ => rfl, key := fun x => [x.Boy, x.Week, x.Note, x.Sang], hkey := fun _ => rfl }
structure VoiceBook where
 Boys : (Sl AK)
 Weeks : Int
 Trials : (Sl AI)
instance : LX VoiceBook := { n := 3, cells := fun x => [Enc.enc x.Boys, .int x.Weeks, Enc.enc x.Trials], enc := fun x => .agg [Enc.enc x.Boys, .int x.Weeks, Enc.enc x.Trials], law := fun _ => rfl, agg := fun _ => rfl, len := fun _ => rfl, ok := fun x => by simp only [List.map_cons, List.map_nil, List.all_cons, List.all_nil, Ig, I1, Ix, Fz, EF, Bool.and_self] }
structure AC where
 Boy : Int
 Notes : BJ
instance : Bj AC := { n := 3, cells := fun x => [.int x.Boy, .int x.Notes.Low, .int x.Notes.High], enc := fun x => .agg [.int x.Boy, .int x.Notes.Low, .int x.Notes.High], law := fun _ => rfl, agg := fun _ => rfl, len := fun _ => rfl, ok := fun _ => rfl, key := fun x => [x.Boy, x.Notes.Low, x.Notes.High], hkey := fun _ => rfl }
structure BO where
 From : Int
 To : Int
 Off : Int
 Error : Int
 deriving DecidableEq
instance : Bj BO := { n := 4, cells := fun x => [.int x.From, .int x.To, .int x.Off, .int x.Error], enc := fun x => .agg [.int x.From, .int x.To, .int x.Off, .int x.Error], law := fun _ => rfl, agg := fun _ => rfl, len := fun _ => rfl, ok := fun _ => rfl, key := fun x => [x.From, x.To, x.Off, x.Error], hkey := fun _ => rfl }
structure BB where
 Pipe : Int
 Read : Int
 Error : Int
 deriving DecidableEq
instance : Bj BB := { n := 3, cells := fun x => [.int x.Pipe, .int x.Read, .int x.Error], enc := fun x => .agg [.int x.Pipe, .int x.Read, .int x.Error], law := fun _ => rfl, agg := fun _ => rfl, len := fun _ => rfl, ok := fun _ => rfl, key := fun x => [x.Pipe, x.Read, x.Error], hkey := fun _ => rfl }
structure OrganBook where
 Pipes : Int
 Tunes : (Sl BO)
 Forks : (Sl BB)
 Voice : VoiceBook
instance : LX OrganBook := { n := 6, cells := fun x => [.int x.Pipes, Enc.enc x.Tunes, Enc.enc x.Forks, Enc.enc x.Voice.Boys, .int x.Voice.Weeks, Enc.enc x.Voice.Trials], enc := fun x => .agg [.int x.Pipes, Enc.enc x.Tunes, Enc.enc x.Forks, Enc.enc x.Voice.Boys, .int x.Voice.Weeks, Enc.enc x.Voice.Trials], law := fun _ => rfl, agg := fun _ => rfl, len := fun _ => rfl, ok := fun x => by simp only [List.map_cons, List.map_nil, List.all_cons, List.all_nil, Ig, I1, Ix, Fz, EF, Bool.and_self] }
structure BR where
 from_ : Int
 to : Int
 deriving DecidableEq
instance : Bj BR := { n := 2, cells := fun x => [.int x.from_, .int x.to], enc := fun x => .agg [.int x.from_, .int x.to], law := fun _ => rfl, agg := fun _ => rfl, len := fun _ => rfl, ok := fun _ => rfl, key := fun x => [x.from_, x.to], hkey := fun _ => rfl }
structure AH where
 OrganBook : OrganBook
 direct : (Mp 2 Int)
 rows : (Ar 6 (Ar 6 Int))
 is_ : Bool
instance : LX AH := { n := 44, cells := fun x => [.int x.OrganBook.Pipes, Enc.enc x.OrganBook.Tunes, Enc.enc x.OrganBook.Forks, Enc.enc x.OrganBook.Voice.Boys, .int x.OrganBook.Voice.Weeks, Enc.enc x.OrganBook.Voice.Trials, Enc.enc x.direct] ++ Enc.cells x.rows ++ [.bool x.is_], enc := fun x => .agg ([.int x.OrganBook.Pipes, Enc.enc x.OrganBook.Tunes, Enc.enc x.OrganBook.Forks, Enc.enc x.OrganBook.Voice.Boys, .int x.OrganBook.Voice.Weeks, Enc.enc x.OrganBook.Voice.Trials, Enc.enc x.direct] ++ Enc.cells x.rows ++ [.bool x.is_]), law := fun _ => rfl, agg := fun _ => rfl, len := fun x => by simp [E6.len, Enc.n], ok := fun x => by simp only [List.map_append, List.all_append, E6.ok]; simp only [List.map_cons, List.map_nil, List.all_cons, List.all_nil, Ig, I1, Ix, Fz, EF, Bool.and_self] }
structure Ad where
 boy : Int
 week : Int
 deriving DecidableEq
instance : Bj Ad := { n := 2, cells := fun x => [.int x.boy, .int x.week], enc := fun x => .agg [.int x.boy, .int x.week], law := fun _ => rfl, agg := fun _ => rfl, len := fun _ => rfl, ok := fun _ => rfl, key := fun x => [x.boy, x.week], hkey := fun _ => rfl }
structure AA where
 VoiceBook : VoiceBook
 truths : (Sl (Sl (Ar 5 Int)))
 whole : (Mp 2 (Sl (Ar 5 Int)))
instance : LX AA := { n := 5, cells := fun x => [Enc.enc x.VoiceBook.Boys, .int x.VoiceBook.Weeks, Enc.enc x.VoiceBook.Trials, Enc.enc x.truths, Enc.enc x.whole], enc := fun x => .agg [Enc.enc x.VoiceBook.Boys, .int x.VoiceBook.Weeks, Enc.enc x.VoiceBook.Trials, Enc.enc x.truths, Enc.enc x.whole], law := fun _ => rfl, agg := fun _ => rfl, len := fun _ => rfl, ok := fun x => by simp only [List.map_cons, List.map_nil, List.all_cons, List.all_nil, Ig, I1, Ix, Fz, EF, Bool.and_self] }
structure Aa where
 so : Int
 of_ : Int
 deriving DecidableEq
instance : Bj Aa := { n := 2, cells := fun x => [.int x.so, .int x.of_], enc := fun x => .agg [.int x.so, .int x.of_], law := fun _ => rfl, agg := fun _ => rfl, len := fun _ => rfl, ok := fun _ => rfl, key := fun x => [x.so, x.of_], hkey := fun _ => rfl }
structure A4 where
 Notes : BJ
 Many : Int
instance : Bj A4 := { n := 3, cells := fun x => [.int x.Notes.Low, .int x.Notes.High, .int x.Many], enc := fun x => .agg [.int x.Notes.Low, .int x.Notes.High, .int x.Many], law := fun _ => rfl, agg := fun _ => rfl, len := fun _ => rfl, ok := fun _ => rfl, key := fun x => [x.Notes.Low, x.Notes.High, x.Many], hkey := fun _ => rfl }
structure AL where
 Week : Int
 Parts : (Sl A4)
instance : LX AL := { n := 2, cells := fun x => [.int x.Week, Enc.enc x.Parts], enc := fun x => .agg [.int x.Week, Enc.enc x.Parts], law := fun _ => rfl, agg := fun _ => rfl, len := fun _ => rfl, ok := fun x => by simp only [List.map_cons, List.map_nil, List.all_cons, List.all_nil, Ig, I1, Ix, Fz, EF, Bool.and_self] }
structure BenchBook where
 Voice : VoiceBook
 Pieces : (Sl AL)
 Most : Int
instance : LX BenchBook := { n := 5, cells := fun x => [Enc.enc x.Voice.Boys, .int x.Voice.Weeks, Enc.enc x.Voice.Trials, Enc.enc x.Pieces, .int x.Most], enc := fun x => .agg [Enc.enc x.Voice.Boys, .int x.Voice.Weeks, Enc.enc x.Voice.Trials, Enc.enc x.Pieces, .int x.Most], law := fun _ => rfl, agg := fun _ => rfl, len := fun _ => rfl, ok := fun x => by simp only [List.map_cons, List.map_nil, List.all_cons, List.all_nil, Ig, I1, Ix, Fz, EF, Bool.and_self] }
structure AQ where
 piece : Int
 part : Int
 deriving DecidableEq
instance : Bj AQ := { n := 2, cells := fun x => [.int x.piece, .int x.part], enc := fun x => .agg [.int x.piece, .int x.part], law := fun _ => rfl, agg := fun _ => rfl, len := fun _ => rfl, ok := fun _ => rfl, key := fun x => [x.piece, x.part], hkey := fun _ => rfl }
structure AB where
 BenchBook : BenchBook
 able : (Mp 2 (Sl Int))
instance : LX AB := { n := 6, cells := fun x => [Enc.enc x.BenchBook.Voice.Boys, .int x.BenchBook.Voice.Weeks, Enc.enc x.BenchBook.Voice.Trials, Enc.enc x.BenchBook.Pieces, .int x.BenchBook.Most, Enc.enc x.able], enc := fun x => .agg [Enc.enc x.BenchBook.Voice.Boys, .int x.BenchBook.Voice.Weeks, Enc.enc x.BenchBook.Voice.Trials, Enc.enc x.BenchBook.Pieces, .int x.BenchBook.Most, Enc.enc x.able], law := fun _ => rfl, agg := fun _ => rfl, len := fun _ => rfl, ok := fun x => by simp only [List.map_cons, List.map_nil, List.all_cons, List.all_nil, Ig, I1, Ix, Fz, EF, Bool.and_self] }
structure EL where
 out : Fv
instance : LX EL := { n := 1, cells := fun x => [Enc.enc x.out], enc := fun x => .agg [Enc.enc x.out], law := fun _ => rfl, agg := fun _ => rfl, len := fun _ => rfl, ok := fun x => by simp only [List.map_cons, List.map_nil, List.all_cons, List.all_nil, Ig, I1, Ix, Fz, EF, Bool.and_self] }
structure B7 where
 Day : Int
 Kind : Int
 Left : Int
 Error : Int
 deriving DecidableEq
instance : Bj B7 := { n := 4, cells := fun x => [.int x.Day, .int x.Kind, .int x.Left, .int x.Error], enc := fun x => .agg [.int x.Day, .int x.Kind, .int x.Left, .int x.Error], law := fun _ => rfl, agg := fun _ => rfl, len := fun _ => rfl, ok := fun _ => rfl, key := fun x => [x.Day, x.Kind, x.Left, x.Error], hkey := fun _ => rfl }
structure U8 where
 Hours : Int
 Dark : BJ
 Lights : (Ar 2 Int)
instance : LX U8 := { n := 5, cells := fun x => [.int x.Hours, .int x.Dark.Low, .int x.Dark.High] ++ Enc.cells x.Lights, enc := fun x => .agg ([.int x.Hours, .int x.Dark.Low, .int x.Dark.High] ++ Enc.cells x.Lights), law := fun _ => rfl, agg := fun _ => rfl, len := fun x => by simp [E6.len, Enc.n], ok := fun x => by simp only [List.map_append, List.all_append, E6.ok]; simp only [List.map_cons, List.map_nil, List.all_cons, List.all_nil, Ig, I1, Ix, Fz, EF, Bool.and_self] }
structure N6 where
 Day : Int
 Kind : Int
 Many : Int
 deriving DecidableEq
instance : Bj N6 := { n := 3, cells := fun x => [.int x.Day, .int x.Kind, .int x.Many], enc := fun x => .agg [.int x.Day, .int x.Kind, .int x.Many], law := fun _ => rfl, agg := fun _ => rfl, len := fun _ => rfl, ok := fun _ => rfl, key := fun x => [x.Day, x.Kind, x.Many], hkey := fun _ => rfl }
structure BK where
 Stock : (Ar 2 BJ)
 Life : (Ar 2 BJ)
 Days : (Sl U8)
 Orders : (Sl N6)
 Counts : (Sl B7)
instance : LX BK := { n := 11, cells := fun x => Enc.cells x.Stock ++ Enc.cells x.Life ++ [Enc.enc x.Days, Enc.enc x.Orders, Enc.enc x.Counts], enc := fun x => .agg (Enc.cells x.Stock ++ Enc.cells x.Life ++ [Enc.enc x.Days, Enc.enc x.Orders, Enc.enc x.Counts]), law := fun _ => rfl, agg := fun _ => rfl, len := fun x => by simp [E6.len, Enc.n], ok := fun x => by simp only [List.map_append, List.all_append, E6.ok]; simp only [List.map_cons, List.map_nil, List.all_cons, List.all_nil, Ig, I1, Ix, Fz, EF, Bool.and_self] }
structure E9 where
 better : Fv
instance : LX E9 := { n := 1, cells := fun x => [Enc.enc x.better], enc := fun x => .agg [Enc.enc x.better], law := fun _ => rfl, agg := fun _ => rfl, len := fun _ => rfl, ok := fun x => by simp only [List.map_cons, List.map_nil, List.all_cons, List.all_nil, Ig, I1, Ix, Fz, EF, Bool.and_self] }
theorem iR : Enc.n VoiceBook = 3 := rfl
theorem lJ : Enc.n (Ar 3 Int) = 3 := rfl
theorem Vr (x : VoiceBook) : Ak (some 3) 0 (Enc.cells x) = some (Enc.enc x) := BD x rfl
theorem bh (x : VoiceBook) : Ak none 0 (Enc.cells x) = some (Enc.enc x.Boys) := rfl
theorem bz (x : VoiceBook) : Ak none 1 (Enc.cells x) = some (.int x.Weeks) := rfl
theorem be (x : VoiceBook) : Ak none 2 (Enc.cells x) = some (Enc.enc x.Trials) := rfl
theorem Xq (x : AK) : Ak (some 11) 0 (Enc.cells x) = some (Enc.enc x) := BD x rfl
theorem u9 (g : Nat) : A6.box g [.d (.int 0), .d (.int 0), .d (.int 0), .d (.int 0), .d (.int 0), .d (.int 0), .d (.int 0), .d (.int 0), .d (.int 0), .d (.int 0), .d (.int 0)] = A6.box g ((Enc.cells ((AK.mk (BJ.mk 0 0) (BJ.mk 0 0) (BJ.mk 0 0) (BJ.mk 0 0) 0 (BJ.mk 0 0)) : AK)).map LV.d) := rfl
theorem lN : Enc.n AK = 11 := rfl
theorem Yh (x : AK) : Ak (some 2) 0 (Enc.cells x) = some (Enc.enc x.Low) := rfl
theorem wR : Enc.n BJ = 2 := rfl
theorem qG (x : BJ) : Ak none 0 (Enc.cells x) = some (.int x.Low) := rfl
theorem qX (x : BJ) : Ak none 1 (Enc.cells x) = some (.int x.High) := rfl
theorem XS (x : AK) : Ak (some 2) 2 (Enc.cells x) = some (Enc.enc x.High) := rfl
theorem YB (x : AK) : Ak (some 2) 4 (Enc.cells x) = some (Enc.enc x.Gain) := rfl
theorem ci (x : AK) : Ak none 8 (Enc.cells x) = some (.int x.Loss) := rfl
theorem YA (x : AK) : Ak (some 2) 6 (Enc.cells x) = some (Enc.enc x.Turn) := rfl
theorem Xz (x : AK) : Ak (some 2) 9 (Enc.cells x) = some (Enc.enc x.Break) := rfl
theorem Sv (x : AI) : Ak (some 4) 0 (Enc.cells x) = some (Enc.enc x) := BD x rfl
theorem sL (g : Nat) : A6.box g [.d (.int 0), .d (.int 0), .d (.int 0), .d (.int 0)] = A6.box g ((Enc.cells ((AI.mk 0 0 0 0) : AI)).map LV.d) := rfl
theorem cg : Enc.n AI = 4 := rfl
theorem Xh (x : AI) : Ak none 0 (Enc.cells x) = some (.int x.Boy) := rfl
theorem YM (x : AI) : Ak none 1 (Enc.cells x) = some (.int x.Week) := rfl
theorem YG (x : AI) : Ak none 2 (Enc.cells x) = some (.int x.Note) := rfl
theorem Xy (x : AI) : Ak none 3 (Enc.cells x) = some (.int x.Sang) := rfl
theorem ZJ (g : Nat) : A6.box g [.d (.int 0), .d (.int 0)] = A6.box g ((Enc.cells ((BJ.mk 0 0) : BJ)).map LV.d) := rfl
theorem H2 (a0 : Int) (a1 : Int) : Cj [.int 0, .int 0] [(0, 1, .d (.int a0)), (1, 1, .d (.int a1))] = some (.d (Enc.enc (BJ.mk a0 a1))) := rfl
theorem K5 (a1 : BJ) : Cj [.int 0, .int 0, .int 0] [(0, 1, .d (.int 0)), (1, 2, .d (Enc.enc a1))] = some (.d (Enc.enc (AC.mk 0 a1))) := rfl
theorem K2 (a1 : BJ) : Cj [.int 0, .int 0, .int 0] [(0, 1, .d (.int 1)), (1, 2, .d (Enc.enc a1))] = some (.d (Enc.enc (AC.mk 1 a1))) := rfl
theorem X8 (a0 : AC) (a1 : AC) : cZ (some 3) [.int 0, .int 0, .int 0] 2 [(0, 3, .d (Enc.enc a0)), (3, 3, .d (Enc.enc a1))] = some (Sl.lv (Sl.hot [a0, a1] : Sl AC)) := JJ [a0, a1] rfl rfl
theorem iU (g : Nat) : A6.box g [.d (.nils), .d (.int 0), .d (.nils)] = A6.box g ((Enc.cells ((VoiceBook.mk (Sl.nil : (Sl AK)) 0 (Sl.nil : (Sl AI))) : VoiceBook)).map LV.d) := rfl
theorem Jd (a0 : BJ) (a1 : BJ) (a2 : BJ) (a3 : BJ) (a5 : BJ) : Cj [.int 0, .int 0, .int 0, .int 0, .int 0, .int 0, .int 0, .int 0, .int 0, .int 0, .int 0] [(0, 2, .d (Enc.enc a0)), (2, 2, .d (Enc.enc a1)), (4, 2, .d (Enc.enc a2)), (6, 2, .d (Enc.enc a3)), (9, 2, .d (Enc.enc a5))] = some (.d (Enc.enc (AK.mk a0 a1 a2 a3 0 a5))) := rfl
theorem Of (a0 : BJ) (a1 : BJ) (a5 : BJ) : Cj [.int 0, .int 0, .int 0, .int 0, .int 0, .int 0, .int 0, .int 0, .int 0, .int 0, .int 0] [(0, 2, .d (Enc.enc a0)), (2, 2, .d (Enc.enc a1)), (9, 2, .d (Enc.enc a5))] = some (.d (Enc.enc (AK.mk a0 a1 (BJ.mk 0 0) (BJ.mk 0 0) 0 a5))) := rfl
theorem Z9 (a0 : AK) (a1 : AK) : cZ (some 11) [.int 0, .int 0, .int 0, .int 0, .int 0, .int 0, .int 0, .int 0, .int 0, .int 0, .int 0] 2 [(0, 11, .d (Enc.enc a0)), (11, 11, .d (Enc.enc a1))] = some (Sl.lv (Sl.hot [a0, a1] : Sl AK)) := JJ [a0, a1] rfl rfl
theorem Ku (a0 : (Sl AK)) : Cj [.nils, .int 0, .nils] [(0, 1, .d (Enc.enc a0)), (1, 1, .d (.int 3))] = some (.d (Enc.enc (VoiceBook.mk a0 3 (Sl.nil : (Sl AI))))) := by cases a0 <;> rfl
theorem iD (g : Nat) : A6.box g [.d (.int 0), .d (.nils), .d (.nils), .d (.nils), .d (.int 0), .d (.nils)] = A6.box g ((Enc.cells ((OrganBook.mk 0 (Sl.nil : (Sl BO)) (Sl.nil : (Sl BB)) (VoiceBook.mk (Sl.nil : (Sl AK)) 0 (Sl.nil : (Sl AI)))) : OrganBook)).map LV.d) := rfl
theorem YK (a1 : Int) : Cj [.int 0, .int 0, .int 0] [(1, 1, .d (.int a1))] = some (.d (Enc.enc (BB.mk 0 a1 0))) := rfl
theorem XG (a0 : BB) : cZ (some 3) [.int 0, .int 0, .int 0] 1 [(0, 3, .d (Enc.enc a0))] = some (Sl.lv (Sl.hot [a0] : Sl BB)) := JJ [a0] rfl rfl
theorem I5 (a2 : (Sl BB)) (a3 : VoiceBook) : Cj [.int 0, .nils, .nils, .nils, .int 0, .nils] [(0, 1, .d (.int 1)), (2, 1, .d (Enc.enc a2)), (3, 3, .d (Enc.enc a3))] = some (.d (Enc.enc (OrganBook.mk 1 (Sl.nil : (Sl BO)) a2 a3))) := by cases a2 <;> rfl
theorem ii : Enc.n OrganBook = 6 := rfl
theorem Um (x : AC) : Ak (some 3) 0 (Enc.cells x) = some (Enc.enc x) := BD x rfl
theorem iG : Enc.n AC = 3 := rfl
theorem US (x : OrganBook) : Ak (some 6) 0 (Enc.cells x) = some (Enc.enc x) := BD x rfl
theorem aF (x : AC) : Ak none 0 (Enc.cells x) = some (.int x.Boy) := rfl
theorem ac (x : OrganBook) : Ak none 3 (Enc.cells x) = some (Enc.enc x.Voice.Boys) := rfl
theorem Z0 (x : AC) : Ak none 1 (Enc.cells x) = some (.int x.Notes.Low) := rfl
theorem bp (x : AC) : Ak none 2 (Enc.cells x) = some (.int x.Notes.High) := rfl
theorem aY (x : OrganBook) : Ak none 4 (Enc.cells x) = some (.int x.Voice.Weeks) := rfl
theorem fM (g : Nat) : A6.box g [.d (.int 0), .d (.nils), .d (.nils), .d (.nils), .d (.int 0), .d (.nils), .d (.nilmap), .d (.int 0), .d (.int 0), .d (.int 0), .d (.int 0), .d (.int 0), .d (.int 0), .d (.int 0), .d (.int 0), .d (.int 0), .d (.int 0), .d (.int 0), .d (.int 0), .d (.int 0), .d (.int 0), .d (.int 0), .d (.int 0), .d (.int 0), .d (.int 0), .d (.int 0), .d (.int 0), .d (.int 0), .d (.int 0), .d (.int 0), .d (.int 0), .d (.int 0), .d (.int 0), .d (.int 0), .d (.int 0), .d (.int 0), .d (.int 0), .d (.int 0), .d (.int 0), .d (.int 0), .d (.int 0), .d (.int 0), .d (.int 0), .d (.bool false)] = A6.box g ((Enc.cells ((AH.mk (OrganBook.mk 0 (Sl.nil : (Sl BO)) (Sl.nil : (Sl BB)) (VoiceBook.mk (Sl.nil : (Sl AK)) 0 (Sl.nil : (Sl AI)))) (Mp.nil : (Mp 2 Int)) (⟨List.replicate 6 (⟨List.replicate 6 0, rfl⟩ : (Ar 6 Int)), rfl⟩ : (Ar 6 (Ar 6 Int))) false) : AH)).map LV.d) := rfl
theorem Zr (x : OrganBook) : Ak none 0 (Enc.cells x) = some (.int x.Pipes) := rfl
theorem aw (x : OrganBook) : Ak none 1 (Enc.cells x) = some (Enc.enc x.Tunes) := rfl
theorem bm (x : OrganBook) : Ak none 2 (Enc.cells x) = some (Enc.enc x.Forks) := rfl
theorem U9 (x : OrganBook) : Ak (some 3) 3 (Enc.cells x) = some (Enc.enc x.Voice) := rfl
theorem VF (x : BO) : Ak (some 4) 0 (Enc.cells x) = some (Enc.enc x) := BD x rfl
theorem uZ (g : Nat) : A6.box g [.d (.int 0), .d (.int 0), .d (.int 0), .d (.int 0)] = A6.box g ((Enc.cells ((BO.mk 0 0 0 0) : BO)).map LV.d) := rfl
theorem gI : Enc.n BO = 4 := rfl
theorem b8 (x : BO) : Ak none 0 (Enc.cells x) = some (.int x.From) := rfl
theorem Z7 (x : BO) : Ak none 1 (Enc.cells x) = some (.int x.To) := rfl
theorem bV (x : BO) : Ak none 2 (Enc.cells x) = some (.int x.Off) := rfl
theorem cT (x : BO) : Ak none 3 (Enc.cells x) = some (.int x.Error) := rfl
theorem WZ (x : BB) : Ak (some 3) 0 (Enc.cells x) = some (Enc.enc x) := BD x rfl
theorem uF (g : Nat) : A6.box g [.d (.int 0), .d (.int 0), .d (.int 0)] = A6.box g ((Enc.cells ((BB.mk 0 0 0) : BB)).map LV.d) := rfl
theorem gv : Enc.n BB = 3 := rfl
theorem Zz (x : BB) : Ak none 0 (Enc.cells x) = some (.int x.Pipe) := rfl
theorem aR (x : BB) : Ak none 1 (Enc.cells x) = some (.int x.Read) := rfl
theorem ag (x : BB) : Ak none 2 (Enc.cells x) = some (.int x.Error) := rfl
theorem L8 (g : Nat) : A6.box g [.d (.nils), .d (.int 0), .d (.nils), .d (.nils), .d (.nilmap)] = A6.box g ((Enc.cells ((AA.mk (VoiceBook.mk (Sl.nil : (Sl AK)) 0 (Sl.nil : (Sl AI))) (Sl.nil : (Sl (Sl (Ar 5 Int)))) (Mp.nil : (Mp 2 (Sl (Ar 5 Int))))) : AA)).map LV.d) := rfl
theorem dH : Enc.n AA = 5 := rfl
theorem MD (a0 : BJ) (a1 : BJ) (a2 : BJ) (a3 : BJ) (a4 : BJ) : Cj [.int 0, .int 0, .int 0, .int 0, .int 0, .int 0, .int 0, .int 0, .int 0, .int 0] [(0, 2, .d (Enc.enc a0)), (2, 2, .d (Enc.enc a1)), (4, 2, .d (Enc.enc a2)), (6, 2, .d (Enc.enc a3)), (8, 2, .d (Enc.enc a4))] = some (.d (Enc.enc (⟨[a0, a1, a2, a3, a4], rfl⟩ : (Ar 5 BJ)))) := rfl
theorem uQ (g : Nat) : A6.box g [.d (.int 0), .d (.int 0), .d (.int 0), .d (.int 0), .d (.int 0), .d (.int 0), .d (.int 0), .d (.int 0), .d (.int 0), .d (.int 0)] = A6.box g ((Enc.cells ((⟨List.replicate 5 (BJ.mk 0 0), rfl⟩ : (Ar 5 BJ)) : (Ar 5 BJ))).map LV.d) := rfl
theorem gw : Enc.n (Ar 5 BJ) = 10 := rfl
theorem lO : Enc.n (Ar 5 Int) = 5 := rfl
theorem XJ (x : (Ar 5 Int)) : Ak (some 5) 0 (Enc.cells x) = some (Enc.enc x) := BD x rfl
theorem tq (a0 : Int) : cZ none [.int 0] 1 [(0, 1, .d (.int a0))] = some (Sl.lv (Sl.hot [a0] : Sl Int)) := rfl
theorem vA (g : Nat) : A6.box g [.d (.int 0), .d (.int 0), .d (.int 0), .d (.int 0), .d (.int 0)] = A6.box g ((Enc.cells ((⟨List.replicate 5 0, rfl⟩ : (Ar 5 Int)) : (Ar 5 Int))).map LV.d) := rfl
theorem ak (a0 : (Ar 5 Int)) : cZ (some 5) [.int 0, .int 0, .int 0, .int 0, .int 0] 1 [(0, 5, .d (Enc.enc a0))] = some (Sl.lv (Sl.hot [a0] : Sl (Ar 5 Int))) := JJ [a0] rfl rfl
theorem JG (a0 : Int) (a1 : Int) : Cj [.int 0, .int 0] [(0, 1, .d (.int a0)), (1, 1, .d (.int a1))] = some (.d (Enc.enc (Ad.mk a0 a1))) := rfl
theorem du (g : Nat) : A6.box g [.d (.int 0), .d (.int 0)] = A6.box g ((Enc.cells ((Ad.mk 0 0) : Ad)).map LV.d) := rfl
theorem dC : Enc.n Ad = 2 := rfl
theorem SQ (x : Ad) : Ak (some 2) 0 (Enc.cells x) = some (Enc.enc x) := BD x rfl
theorem Qj (a0 : (Sl (Ar 5 Int))) : cZ none [.nils] 1 [(0, 1, Sl.lv (Sl.spent a0))] = some (Sl.lv (Sl.hot [a0] : Sl (Sl (Ar 5 Int)))) := by cases a0 <;> rfl
theorem YN (x : AA) : Ak none 3 (Enc.cells x) = some (Enc.enc x.truths) := rfl
theorem U5 (x : AH) : Ak none 43 (Enc.cells x) = some (.bool x.is_) := by
 show Ak _ _ ([DV.int x.OrganBook.Pipes, Enc.enc x.OrganBook.Tunes, Enc.enc x.OrganBook.Forks, Enc.enc x.OrganBook.Voice.Boys, DV.int x.OrganBook.Voice.Weeks, Enc.enc x.OrganBook.Voice.Trials, Enc.enc x.direct] ++ Enc.cells x.rows ++ [DV.bool x.is_]) = _
 have e0 : (Enc.cells x.rows).length = 36 := by rw [Ju]; rfl
 simp [Ak, List.getElem?_append, List.drop_append, List.take_append, e0, LX.agg] <;> first | rfl | (apply List.take_of_length_le; omega)
theorem dK : Enc.n AH = 44 := rfl
theorem Kr  : Cj [.int 0, .nils, .nils, .nils, .int 0, .nils, .nilmap, .int 0, .int 0, .int 0, .int 0, .int 0, .int 0, .int 0, .int 0, .int 0, .int 0, .int 0, .int 0, .int 0, .int 0, .int 0, .int 0, .int 0, .int 0, .int 0, .int 0, .int 0, .int 0, .int 0, .int 0, .int 0, .int 0, .int 0, .int 0, .int 0, .int 0, .int 0, .int 0, .int 0, .int 0, .int 0, .int 0, .bool false] [] = some (.d (Enc.enc (AH.mk (OrganBook.mk 0 (Sl.nil : (Sl BO)) (Sl.nil : (Sl BB)) (VoiceBook.mk (Sl.nil : (Sl AK)) 0 (Sl.nil : (Sl AI)))) (Mp.nil : (Mp 2 Int)) (⟨List.replicate 6 (⟨List.replicate 6 0, rfl⟩ : (Ar 6 Int)), rfl⟩ : (Ar 6 (Ar 6 Int))) false))) := rfl
theorem SL (x : AH) : Ak (some 44) 0 (Enc.cells x) = some (Enc.enc x) := BD x rfl
theorem Hy  : Cj [.int 0, .int 0] [(0, 1, .d (.int 5)), (1, 1, .d (.int 0))] = some (.d (Enc.enc (BR.mk 5 0))) := rfl
theorem ft : Enc.n BR = 2 := rfl
theorem SY (x : BR) : Ak (some 2) 0 (Enc.cells x) = some (Enc.enc x) := BD x rfl
theorem Xx (x : BR) : Ak none 1 (Enc.cells x) = some (.int x.to) := rfl
theorem XM (x : BR) : Ak none 0 (Enc.cells x) = some (.int x.from_) := rfl
theorem MA (x : AH) {i k w : Int} {r : (Ar 6 Int)} (h : x.rows.ix i = some r) (h2 : r.ix k = some w) : Ak none (7 + i.toNat * 6 + k.toNat * 1) (Enc.cells x) = some (.int w) := by
 have := tX (A := [.int x.OrganBook.Pipes, Enc.enc x.OrganBook.Tunes, Enc.enc x.OrganBook.Forks, Enc.enc x.OrganBook.Voice.Boys, .int x.OrganBook.Voice.Weeks, Enc.enc x.OrganBook.Voice.Trials, Enc.enc x.direct]) (C := [.bool x.is_]) (off := 7) (by simp [Ju, Enc.n]) h h2
 show Ak _ _ ([.int x.OrganBook.Pipes, Enc.enc x.OrganBook.Tunes, Enc.enc x.OrganBook.Forks, Enc.enc x.OrganBook.Voice.Boys, .int x.OrganBook.Voice.Weeks, Enc.enc x.OrganBook.Voice.Trials, Enc.enc x.direct] ++ Enc.cells x.rows ++ [.bool x.is_]) = _
 simpa only [List.append_assoc, List.append_nil, List.nil_append] using this
theorem Yb (x : AH) : Ak none 0 (Enc.cells x) = some (.int x.OrganBook.Pipes) := by
 show Ak _ _ ([DV.int x.OrganBook.Pipes, Enc.enc x.OrganBook.Tunes, Enc.enc x.OrganBook.Forks, Enc.enc x.OrganBook.Voice.Boys, DV.int x.OrganBook.Voice.Weeks, Enc.enc x.OrganBook.Voice.Trials, Enc.enc x.direct] ++ Enc.cells x.rows ++ [DV.bool x.is_]) = _
 have e0 : (Enc.cells x.rows).length = 36 := by rw [Ju]; rfl
 simp [Ak, List.getElem?_append, List.drop_append, List.take_append, e0, LX.agg] <;> first | rfl | (apply List.take_of_length_le; omega)
theorem Jv (a1 : Int) : Cj [.int 0, .int 0] [(0, 1, .d (.int 5)), (1, 1, .d (.int a1))] = some (.d (Enc.enc (BR.mk 5 a1))) := rfl
theorem tr (g : Nat) : A6.box g [.d (.int 0), .d (.int 0), .d (.int 0)] = A6.box g ((Enc.cells ((AC.mk 0 (BJ.mk 0 0)) : AC)).map LV.d) := rfl
theorem mC (x : BJ) : Ak (some 2) 0 (Enc.cells x) = some (Enc.enc x) := BD x rfl
theorem TE (x : AH) : Ak (some 3) 3 (Enc.cells x) = some (Enc.enc x.OrganBook.Voice) := by
 show Ak _ _ ([DV.int x.OrganBook.Pipes, Enc.enc x.OrganBook.Tunes, Enc.enc x.OrganBook.Forks, Enc.enc x.OrganBook.Voice.Boys, DV.int x.OrganBook.Voice.Weeks, Enc.enc x.OrganBook.Voice.Trials, Enc.enc x.direct] ++ Enc.cells x.rows ++ [DV.bool x.is_]) = _
 have e0 : (Enc.cells x.rows).length = 36 := by rw [Ju]; rfl
 simp [Ak, List.getElem?_append, List.drop_append, List.take_append, e0, LX.agg] <;> first | rfl | (apply List.take_of_length_le; omega)
theorem S5 (x : AA) : Ak (some 5) 0 (Enc.cells x) = some (Enc.enc x) := BD x rfl
theorem QN  : Cj [.nils, .int 0, .nils, .nils, .nilmap] [] = some (.d (Enc.enc (AA.mk (VoiceBook.mk (Sl.nil : (Sl AK)) 0 (Sl.nil : (Sl AI))) (Sl.nil : (Sl (Sl (Ar 5 Int)))) (Mp.nil : (Mp 2 (Sl (Ar 5 Int))))))) := rfl
theorem cV (g : Nat) : A6.box g [.d (.int 0), .d (.int 0)] = A6.box g ((Enc.cells ((Aa.mk 0 0) : Aa)).map LV.d) := rfl
theorem TG (a1 : Int) : Cj [.int 0, .int 0] [(1, 1, .d (.int a1))] = some (.d (Enc.enc (Aa.mk 0 a1))) := rfl
theorem aS : Enc.n Aa = 2 := rfl
theorem W1 (x : AA) : Ak none 4 (Enc.cells x) = some (Enc.enc x.whole) := rfl
theorem Yf (x : AA) : Ak none 0 (Enc.cells x) = some (Enc.enc x.VoiceBook.Boys) := rfl
theorem Vf (x : Aa) : Ak none 0 (Enc.cells x) = some (.int x.so) := rfl
theorem WW (x : Aa) (v : Int) : Da 1 0 ([.d (.int v)]) ((Enc.cells x).map LV.d) = some ((Enc.cells (Aa.mk v x.of_)).map LV.d) := rfl
theorem Qz (x : Aa) : Ak (some 2) 0 (Enc.cells x) = some (Enc.enc x) := BD x rfl
theorem Uo (x : Aa) : Ak none 1 (Enc.cells x) = some (.int x.of_) := rfl
theorem gY (g : Nat) : A6.box g [.d (.nils), .d (.int 0), .d (.nils), .d (.nils), .d (.int 0)] = A6.box g ((Enc.cells ((BenchBook.mk (VoiceBook.mk (Sl.nil : (Sl AK)) 0 (Sl.nil : (Sl AI))) (Sl.nil : (Sl AL)) 0) : BenchBook)).map LV.d) := rfl
theorem K6 (a0 : VoiceBook) : Cj [.nils, .int 0, .nils, .nils, .int 0] [(0, 3, .d (Enc.enc a0)), (4, 1, .d (.int 1))] = some (.d (Enc.enc (BenchBook.mk a0 (Sl.nil : (Sl AL)) 1))) := rfl
theorem iw : Enc.n BenchBook = 5 := rfl
theorem Vu (x : AC) : Ak (some 2) 1 (Enc.cells x) = some (Enc.enc x.Notes) := rfl
theorem KA (a0 : BJ) : Cj [.int 0, .int 0, .int 0] [(0, 2, .d (Enc.enc a0)), (2, 1, .d (.int 1))] = some (.d (Enc.enc (A4.mk a0 1))) := rfl
theorem X9 (a0 : A4) : cZ (some 3) [.int 0, .int 0, .int 0] 1 [(0, 3, .d (Enc.enc a0))] = some (Sl.lv (Sl.hot [a0] : Sl A4)) := JJ [a0] rfl rfl
theorem Pn (a0 : Int) (a1 : (Sl A4)) : Cj [.int 0, .nils] [(0, 1, .d (.int a0)), (1, 1, .d (Enc.enc a1))] = some (.d (Enc.enc (AL.mk a0 a1))) := by cases a1 <;> rfl
theorem UE (a0 : AL) : cZ (some 2) [.int 0, .nils] 1 [(0, 2, .d (Enc.enc a0))] = some (Sl.lv (Sl.hot [a0] : Sl AL)) := JJ [a0] rfl rfl
theorem U0 (x : BenchBook) : Ak (some 5) 0 (Enc.cells x) = some (Enc.enc x) := BD x rfl
theorem cA (x : BenchBook) : Ak none 3 (Enc.cells x) = some (Enc.enc x.Pieces) := rfl
theorem XY (x : AL) : Ak none 1 (Enc.cells x) = some (Enc.enc x.Parts) := rfl
theorem MC (g : Nat) : A6.box g [.d (.nils), .d (.int 0), .d (.nils), .d (.nils), .d (.int 0), .d (.nilmap)] = A6.box g ((Enc.cells ((AB.mk (BenchBook.mk (VoiceBook.mk (Sl.nil : (Sl AK)) 0 (Sl.nil : (Sl AI))) (Sl.nil : (Sl AL)) 0) (Mp.nil : (Mp 2 (Sl Int)))) : AB)).map LV.d) := rfl
theorem Tj (x : BenchBook) : Ak (some 3) 0 (Enc.cells x) = some (Enc.enc x.Voice) := rfl
theorem aj (x : BenchBook) : Ak none 4 (Enc.cells x) = some (.int x.Most) := rfl
theorem TB (x : AL) : Ak (some 2) 0 (Enc.cells x) = some (Enc.enc x) := BD x rfl
theorem sx (g : Nat) : A6.box g [.d (.int 0), .d (.nils)] = A6.box g ((Enc.cells ((AL.mk 0 (Sl.nil : (Sl A4))) : AL)).map LV.d) := rfl
theorem dQ : Enc.n AL = 2 := rfl
theorem YQ (x : AL) : Ak none 0 (Enc.cells x) = some (.int x.Week) := rfl
theorem Zm (x : BenchBook) : Ak none 1 (Enc.cells x) = some (.int x.Voice.Weeks) := rfl
theorem V8 (x : A4) : Ak (some 3) 0 (Enc.cells x) = some (Enc.enc x) := BD x rfl
theorem t7 (g : Nat) : A6.box g [.d (.int 0), .d (.int 0), .d (.int 0)] = A6.box g ((Enc.cells ((A4.mk (BJ.mk 0 0) 0) : A4)).map LV.d) := rfl
theorem iV : Enc.n A4 = 3 := rfl
theorem aP (x : A4) : Ak none 0 (Enc.cells x) = some (.int x.Notes.Low) := rfl
theorem bj (x : A4) : Ak none 1 (Enc.cells x) = some (.int x.Notes.High) := rfl
theorem Zg (x : A4) : Ak none 2 (Enc.cells x) = some (.int x.Many) := rfl
theorem UX (g : Nat) : A6.box g [.d (.nilfn)] = A6.box g ((Enc.cells ((EL.mk Fv.nil) : EL)).map LV.d) := rfl
theorem Hv  : Cj [.nilfn] [(0, 1, .d (.fn 84 [] []))] = some (.d (Enc.enc (EL.mk (Fv.mk 84 [] [])))) := rfl
theorem V4 : Enc.n EL = 1 := rfl
theorem dB : Enc.n AB = 6 := rfl
theorem JI (a0 : Int) (a1 : Int) : Cj [.int 0, .int 0] [(0, 1, .d (.int a0)), (1, 1, .d (.int a1))] = some (.d (Enc.enc (AQ.mk a0 a1))) := rfl
theorem sr (g : Nat) : A6.box g [.d (.int 0), .d (.int 0)] = A6.box g ((Enc.cells ((AQ.mk 0 0) : AQ)).map LV.d) := rfl
theorem eh : Enc.n AQ = 2 := rfl
theorem bB (x : BenchBook) : Ak none 0 (Enc.cells x) = some (Enc.enc x.Voice.Boys) := rfl
theorem S7 (x : AQ) : Ak (some 2) 0 (Enc.cells x) = some (Enc.enc x) := BD x rfl
theorem Yd (x : AQ) : Ak none 0 (Enc.cells x) = some (.int x.piece) := rfl
theorem W6 (x : AQ) : Ak none 1 (Enc.cells x) = some (.int x.part) := rfl
theorem Ut (x : A4) : Ak (some 2) 0 (Enc.cells x) = some (Enc.enc x.Notes) := rfl
theorem Ko  : Cj [.nils, .int 0, .nils, .nils, .int 0, .nilmap] [] = some (.d (Enc.enc (AB.mk (BenchBook.mk (VoiceBook.mk (Sl.nil : (Sl AK)) 0 (Sl.nil : (Sl AI))) (Sl.nil : (Sl AL)) 0) (Mp.nil : (Mp 2 (Sl Int)))))) := rfl
theorem Xl (x : AB) : Ak none 5 (Enc.cells x) = some (Enc.enc x.able) := rfl
theorem Md  : cZ none [.int 0] 2 [(0, 1, .d (.int 2)), (1, 1, .d (.int 3))] = some (Sl.lv (Sl.hot [2, 3] : Sl Int)) := rfl
theorem Es  : Cj [.int 0, .int 0, .int 0, .int 0] [(0, 1, .d (.int 1)), (2, 1, .d (.int 16)), (3, 1, .d (.int 1))] = some (.d (Enc.enc (B7.mk 1 0 16 1))) := rfl
theorem SX (a0 : B7) : cZ (some 4) [.int 0, .int 0, .int 0, .int 0] 1 [(0, 4, .d (Enc.enc a0))] = some (Sl.lv (Sl.hot [a0] : Sl B7)) := JJ [a0] rfl rfl
theorem sA (g : Nat) : A6.box g [.d (.int 0), .d (.int 0), .d (.int 0), .d (.int 0), .d (.int 0), .d (.int 0), .d (.int 0), .d (.int 0), .d (.nils), .d (.nils), .d (.nils)] = A6.box g ((Enc.cells ((BK.mk (⟨List.replicate 2 (BJ.mk 0 0), rfl⟩ : (Ar 2 BJ)) (⟨List.replicate 2 (BJ.mk 0 0), rfl⟩ : (Ar 2 BJ)) (Sl.nil : (Sl U8)) (Sl.nil : (Sl N6)) (Sl.nil : (Sl B7))) : BK)).map LV.d) := rfl
theorem eS : Enc.n BK = 11 := rfl
theorem SU (x : BK) : Ak (some 11) 0 (Enc.cells x) = some (Enc.enc x) := BD x rfl
theorem Ez  : cZ none [.int 0] 4 [(0, 1, .d (.int (-1))), (1, 1, .d (.int 0)), (2, 1, .d (.int 1)), (3, 1, .d (.int 2))] = some (Sl.lv (Sl.hot [(-1), 0, 1, 2] : Sl Int)) := rfl
theorem bA  : cZ none [.int 0] 1 [(0, 1, .d (.int 1))] = some (Sl.lv (Sl.hot [1] : Sl Int)) := rfl
theorem RR (a0 : Int) (a1 : BJ) : Cj [.int 0, .int 0, .int 0] [(0, 1, .d (.int a0)), (1, 2, .d (Enc.enc a1))] = some (.d (Enc.enc (AC.mk a0 a1))) := rfl
theorem YJ (a0 : AC) : cZ (some 3) [.int 0, .int 0, .int 0] 1 [(0, 3, .d (Enc.enc a0))] = some (Sl.lv (Sl.hot [a0] : Sl AC)) := JJ [a0] rfl rfl
theorem Pe (g : Nat) : A6.box g [.d (.nilfn)] = A6.box g ((Enc.cells ((E9.mk Fv.nil) : E9)).map LV.d) := rfl
theorem IM  : Cj [.nilfn] [(0, 1, .d (.fn 61 [] []))] = some (.d (Enc.enc (E9.mk (Fv.mk 61 [] [])))) := rfl
theorem aW : Enc.n E9 = 1 := rfl
theorem uA  : Cj [.int 0, .int 0] [] = some (.d (Enc.enc (BJ.mk 0 0))) := rfl
def AA.lc (e : AA) (j t g : Nat) : List LV := [.d (Enc.enc e.VoiceBook.Boys), .d (.int e.VoiceBook.Weeks), .d (Enc.enc e.VoiceBook.Trials), .d (Enc.enc e.truths), .mref j t g]
def AB.lc (e : AB) (j t g : Nat) : List LV := [.d (Enc.enc e.BenchBook.Voice.Boys), .d (.int e.BenchBook.Voice.Weeks), .d (Enc.enc e.BenchBook.Voice.Trials), .d (Enc.enc e.BenchBook.Pieces), .d (.int e.BenchBook.Most), .mref j t g]
def AU (e : AA) (j t g : Nat) : List LV := [.d (Enc.enc e.VoiceBook.Boys), .d (.int e.VoiceBook.Weeks), .d (Enc.enc e.VoiceBook.Trials), Sl.lv (Sl.unf e.truths), .mref j t g]
def Ba (e : BenchBook) : List LV := [.d (Enc.enc e.Voice.Boys), .d (.int e.Voice.Weeks), .d (Enc.enc e.Voice.Trials), Sl.lv (Sl.unf e.Pieces), .d (.int e.Most)]
theorem P8 (a0 : VoiceBook) (j t g : Nat) : Cj [.nils, .int 0, .nils, .nils, .nilmap] [(0, 3, .d (Enc.enc a0)), (4, 1, .mref j t g)] = some (.agg (AA.lc (AA.mk a0 (Sl.nil : (Sl (Sl (Ar 5 Int)))) (Mp.nil : (Mp 2 (Sl (Ar 5 Int))))) j t g)) := rfl
theorem Jm (e : AA) (j t g : Nat) (cs : List LV) (h : cs.length = 5) : Da 5 0 (AA.lc e j t g) cs = some (AA.lc e j t g) := Rr h rfl (by simp only [AA.lc, List.all_cons, List.all_nil, Ig, I1, Ix, Fz, EF, Ti, Bool.and_self])
theorem Bi (e : AA) (j t g : Nat) : part (some 5) 0 (AA.lc e j t g) = some (.agg (AA.lc e j t g)) := rfl
theorem FG (e : AA) (j t g : Nat) : ZK 5 (.agg (AA.lc e j t g)) = some (AA.lc e j t g) := by
 simp only [ZK, RV]
 rw [if_pos ⟨rfl, by simp only [AA.lc, List.all_cons, List.all_nil, Ig, I1, Ix, Fz, EF, Ti, Bool.and_self]⟩]
theorem RD (e : AA) (j t g : Nat) : part (some 5) 0 (AA.lc e j t g) = some (.agg (AA.lc e j t g)) := rfl
theorem Qe (e : AA) (j t g : Nat) (r : List LV) : AW (.agg (AA.lc e j t g) :: r) = none := rfl
theorem WA (e : AA) (j t g : Nat) : part none 0 (AA.lc e j t g) = some (.d (Enc.enc e.VoiceBook.Boys)) := rfl
theorem N8 (e : AA) (j t g : Nat) : part none 2 (AA.lc e j t g) = some (.d (Enc.enc e.VoiceBook.Trials)) := rfl
theorem N3 (e : AA) (j t g : Nat) : part none 0 (AA.lc e j t g) = some (.d (Enc.enc e.VoiceBook.Boys)) := rfl
theorem iI (e : AA) (j t g : Nat) : part none 4 (AA.lc e j t g) = some (.mref j t g) := rfl
theorem kb {e : AA} {j t g : Nat} {v : (Sl (Sl (Ar 5 Int)))} (h : v.lv = v.unf.lv) : Da 1 3 [v.lv] (AA.lc e j t g) = some (AU (AA.mk e.VoiceBook v e.whole) j t g) := by
 cases v <;> first | rfl | (cases h)
theorem GI (e : AA) (j t g : Nat) : part (some 5) 0 (AU e j t g) = some (.agg (AA.lc e j t g)) := by
 cases h0 : e.truths <;> first | rfl | (simp only [AA.lc, AU, h0]; rfl) | (simp only [AA.lc, AU, h0])
theorem LU (e : AA) (j t g : Nat) : part none 4 (AU e j t g) = some (.mref j t g) := rfl
theorem MP (e : AA) (j t g : Nat) : List.set (AU e j t g) 3 (.d (Enc.enc e.truths)) = (AU (AA.mk e.VoiceBook e.truths.cool e.whole) j t g) := by
 cases h0 : e.truths <;> first | rfl | (simp only [AA.lc, AU, h0]; rfl) | (simp only [AA.lc, AU, h0])
theorem Lm {e : AA} {j t g : Nat} {v : (Sl (Sl (Ar 5 Int)))} (h : v.lv = v.unf.lv) : Da 1 3 [v.lv] (AU e j t g) = some (AU (AA.mk e.VoiceBook v e.whole) j t g) := by
 cases v <;> first | rfl | (cases h)
theorem Q1 {s : St} {t tm g gm : Nat} {e : AA} {es : List (List Int × (Sl (Ar 5 Int)))} (h : s.raw t = some (.box g (AA.lc e s.low.length tm gm))) (hm : s.raw tm = some (.mapo gm 2 (Dx es))) : Rm s (t, some (some 5)) = some (.d (Enc.enc ((AA.mk e.VoiceBook e.truths (Mp.mk es))))) := by
 simp only [St.raw] at h hm
 have hc : (AA.lc e s.low.length tm gm).map LV.copy = AA.lc e s.low.length tm gm := rfl
 have hl : (AA.lc e s.low.length tm gm).length = 5 := rfl
 have hn : LV.norm (.agg (AA.lc e s.low.length tm gm)) = .agg (AA.lc e s.low.length tm gm) := rfl
 simp only [Rm, CC, h, hl, if_true, hc, hn, Option.bind_some]
 show (((AA.lc e s.low.length tm gm).mapM (freeze s.low.length s.env 8)).map fun cs => LV.norm (.agg cs)) = _
 simp only [AA.lc, List.mapM_cons, List.mapM_nil, kZ, ZY _ _ _ _ _ _ _ hm]
 rfl
theorem QW (e : AA) (j t g : Nat) : (AA.lc e j t g) = (AU (AA.mk e.VoiceBook e.truths.cool e.whole) j t g) := by
 cases h0 : e.truths <;> first | rfl | (simp only [AA.lc, AU, h0]; rfl) | (simp only [AA.lc, AU, h0])
theorem l3 {e : BenchBook} {v : (Sl AL)} (h : v.lv = v.unf.lv) : Da 1 3 [v.lv] ((Enc.cells e).map LV.d) = some (Ba (BenchBook.mk e.Voice v e.Most)) := by
 cases v <;> first | rfl | (cases h)
theorem NV (e : BenchBook) : List.set (Ba e) 3 (.d (Enc.enc e.Pieces)) = (Ba (BenchBook.mk e.Voice e.Pieces.cool e.Most)) := by
 obtain ⟨_, z, _⟩ := e
 cases z <;> rfl
theorem NY {e : BenchBook} {v : (Sl AL)} (h : v.lv = v.unf.lv) : Da 1 3 [v.lv] (Ba e) = some (Ba (BenchBook.mk e.Voice v e.Most)) := by
 cases v <;> first | rfl | (cases h)
theorem K3 (e : BenchBook) : part (some 5) 0 (Ba e) = some (.d (Enc.enc e)) := by
 obtain ⟨_, z, _⟩ := e
 cases z <;> rfl
theorem Q0 (e : BenchBook) : ((Enc.cells e).map LV.d) = (Ba (BenchBook.mk e.Voice e.Pieces.cool e.Most)) := by
 obtain ⟨_, z, _⟩ := e
 cases z <;> rfl
theorem Px (a0 : BenchBook) (j t g : Nat) : Cj [.nils, .int 0, .nils, .nils, .int 0, .nilmap] [(0, 5, .d (Enc.enc a0)), (5, 1, .mref j t g)] = some (.agg (AB.lc (AB.mk a0 (Mp.nil : (Mp 2 (Sl Int)))) j t g)) := rfl
theorem J7 (e : AB) (j t g : Nat) (cs : List LV) (h : cs.length = 6) : Da 6 0 (AB.lc e j t g) cs = some (AB.lc e j t g) := Rr h rfl (by simp only [AB.lc, List.all_cons, List.all_nil, Ig, I1, Ix, Fz, EF, Ti, Bool.and_self])
theorem Ho (e : AB) (j t g : Nat) : part (some 6) 0 (AB.lc e j t g) = some (.agg (AB.lc e j t g)) := rfl
theorem O4 (e : AB) (j t g : Nat) (r : List LV) : AW (.agg (AB.lc e j t g) :: r) = none := rfl
theorem Qy (e : AB) (j t g : Nat) : ZK 6 (.agg (AB.lc e j t g)) = some (AB.lc e j t g) := by
 simp only [ZK, RV]
 rw [if_pos ⟨rfl, by simp only [AB.lc, List.all_cons, List.all_nil, Ig, I1, Ix, Fz, EF, Ti, Bool.and_self]⟩]
theorem OZ (e : AB) (j t g : Nat) : part none 3 (AB.lc e j t g) = some (.d (Enc.enc e.BenchBook.Pieces)) := rfl
theorem M1 (e : AB) (j t g : Nat) : part (some 3) 0 (AB.lc e j t g) = some (.d (Enc.enc e.BenchBook.Voice)) := rfl
theorem OS (e : AB) (j t g : Nat) : part none 5 (AB.lc e j t g) = some (.mref j t g) := rfl
theorem Qv {s : St} {t tm g gm : Nat} {e : AB} {es : List (List Int × (Sl Int))} (h : s.raw t = some (.box g (AB.lc e s.low.length tm gm))) (hm : s.raw tm = some (.mapo gm 2 (Dx es))) : Rm s (t, some (some 6)) = some (.d (Enc.enc ((AB.mk e.BenchBook (Mp.mk es))))) := by
 simp only [St.raw] at h hm
 have hc : (AB.lc e s.low.length tm gm).map LV.copy = AB.lc e s.low.length tm gm := rfl
 have hl : (AB.lc e s.low.length tm gm).length = 6 := rfl
 have hn : LV.norm (.agg (AB.lc e s.low.length tm gm)) = .agg (AB.lc e s.low.length tm gm) := rfl
 simp only [Rm, CC, h, hl, if_true, hc, hn, Option.bind_some]
 show (((AB.lc e s.low.length tm gm).mapM (freeze s.low.length s.env 8)).map fun cs => LV.norm (.agg cs)) = _
 simp only [AB.lc, List.mapM_cons, List.mapM_nil, kZ, ZY _ _ _ _ _ _ _ hm]
 rfl
def ps := And.intro @Bool.true_beq <| And.intro @Bool.false_beq <| And.intro @Bool.true_bne <| And.intro @Bool.false_bne <| And.intro @beq_true <| And.intro @beq_false <| And.intro @Bool.bne_true <| And.intro @Bool.bne_false <| And.intro @MD <| And.intro @K6 <| And.intro @KA <| And.intro @Pn <| And.intro @I5 <| And.intro @K5 <| And.intro @K2 <| And.intro @RR <| And.intro @Ku <| And.intro @Jd <| And.intro @Of <| And.intro @Px <| And.intro @P8 <| And.intro @ak <| And.intro @X9 <| And.intro @UE <| And.intro @SX <| And.intro @bA <| And.intro @Md <| And.intro @Ez <| And.intro @tq <| And.intro @XG <| And.intro @YJ <| And.intro @X8 <| And.intro @Qj <| And.intro @Z9 <| And.intro @lJ <| And.intro @lO <| And.intro @gw <| And.intro @iw <| And.intro @iV <| And.intro @dQ <| And.intro @eS <| And.intro @ii <| And.intro @gv <| And.intro @iG <| And.intro @gI <| And.intro @wR <| And.intro @iR <| And.intro @lN <| And.intro @cg <| And.intro @dB <| And.intro @eh <| And.intro @V4 <| And.intro @dK <| And.intro @aW <| And.intro @ft <| And.intro @dH <| And.intro @dC <| And.intro @aS <| And.intro @XJ <| And.intro @bB <| And.intro @Tj <| And.intro @Zm <| And.intro @cA <| And.intro @aj <| And.intro @U0 <| And.intro @aP <| And.intro @Ut <| And.intro @bj <| And.intro @Zg <| And.intro @V8 <| And.intro @YQ <| And.intro @XY <| And.intro @TB <| And.intro @SU <| And.intro @Zr <| And.intro @aw <| And.intro @bm <| And.intro @ac <| And.intro @U9 <| And.intro @aY <| And.intro @US <| And.intro @Zz <| And.intro @aR <| And.intro @ag <| And.intro @WZ <| And.intro @aF <| And.intro @Z0 <| And.intro @Vu <| And.intro @bp <| And.intro @Um <| And.intro @b8 <| And.intro @Z7 <| And.intro @bV <| And.intro @cT <| And.intro @VF <| And.intro @qG <| And.intro @qX <| And.intro @mC <| And.intro @bh <| And.intro @bz <| And.intro @be <| And.intro @Vr <| And.intro @Yh <| And.intro @XS <| And.intro @YB <| And.intro @YA <| And.intro @ci <| And.intro @Xz <| And.intro @Xq <| And.intro @Xh <| And.intro @YM <| And.intro @YG <| And.intro @Xy <| And.intro @Sv <| And.intro @Xl <| And.intro @Yd <| And.intro @W6 <| And.intro @S7 <| And.intro @Yb <| And.intro @TE <| And.intro @U5 <| And.intro @SL <| And.intro @XM <| And.intro @Xx <| And.intro @SY <| And.intro @Yf <| And.intro @YN <| And.intro @W1 <| And.intro @S5 <| And.intro @SQ <| And.intro @Vf <| And.intro @Uo <| And.intro @Qz <| And.intro @WW trivial
section
variable {LP : Aw} {ks : List gG} {J : zk → St → Prop} {s : St} {B : List Nat} {ops : List AD} {keep : List Nat} {low : List Fr} {l : Nat → Hn}
theorem Ra (hl : s.low = low) (hf : NoB B s) (h' : ∀ c s', Em (l c) s' → s'.low = low → NoB B s' → Nx LP J s' 60 ks (.inl .normal)) (hB : ops.all (opB B) = true := by rfl)
 (h : ∀ c, kn keep (Lf.evalOps LP (om LP) c ops (s.atc c ops.length)) = some (l c, low) := by intro c; simp only [rt, ps, nob hf, *, reduceCtorEq, Nat.reduceEqDiff, Nat.reduceAdd, Nat.reduceMul] <;> rfl) : Run LP ks (.ops ops keep) s J := yc hl hf hB h h'
theorem Rx (d : Nat → Hn) (hl : s.low = low) (hf : NoB B s) (h' : ∀ c s', Em (l c) s' → s'.low = low → NoB B s' → Nx LP J s' 60 ks (.inl .normal)) (hB : ops.all (opB B) = true := by rfl)
 (h0 : ∀ c, lk (d c) keep s = some (l c) := by intro c; (first | simp only [er, VC, Up, P9, QR, r, if_true, if_false, Nat.reduceEqDiff] | simp only [er, VC, Up, P9, QR, *, if_true, if_false, Nat.reduceEqDiff]); all_goals rfl)
 (h : ∀ c, kn keep (Lf.evalOps LP (om LP) c ops (s.atc c ops.length)) = some (l c, low) := by intro c; repeat' (simp only [rt, ps, nob hf, *, reduceCtorEq, Nat.reduceEqDiff, Nat.reduceAdd, Nat.reduceMul] <;> first | refine zm (fun _ => ?_) fun _ => ?_ | refine gd (fun _ => ?_) fun _ => ?_)) : Run LP ks (.ops ops keep) s J := yc hl hf hB h h'
theorem Rq {α : Type} {o : Option α} {x : α} (d : Nat → Hn) (hl : s.low = low) (hf : NoB B s) (q : o = some x) (h' : ∀ c s', Em (l c) s' → s'.low = low → NoB B s' → Nx LP J s' 60 ks (.inl .normal)) (hB : ops.all (opB B) = true := by rfl)
 (h0 : ∀ c, lk (d c) keep s = some (l c) := by intro c; (first | simp only [er, VC, Up, P9, QR, r, if_true, if_false, Nat.reduceEqDiff] | simp only [er, VC, Up, P9, QR, *, if_true, if_false, Nat.reduceEqDiff]); all_goals rfl)
 (h : ∀ c, kn keep (Lf.evalOps LP (om LP) c ops (s.atc c ops.length)) = some (l c, low) := by
  intro c; revert q; (repeat' (first | refine gb fun _ _ => ?_ | refine gi (fun _ => ?_) fun _ => ?_)); (all_goals (intro q; cases q)); all_goals (repeat' (simp only [rt, ps, nob hf, *, reduceCtorEq, Nat.reduceEqDiff, Nat.reduceAdd, Nat.reduceMul] <;> first | refine zm (fun _ => ?_) fun _ => ?_ | refine gd (fun _ => ?_) fun _ => ?_))) : Run LP ks (.ops ops keep) s J := yc hl hf hB h h'
end
end Go.Lf
