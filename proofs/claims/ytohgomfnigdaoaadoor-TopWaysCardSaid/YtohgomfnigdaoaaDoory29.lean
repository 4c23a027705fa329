/- A part of the proof. -/
import Derived.Test.YtohgomfnigdaoaaDoory26
import Derived.Test.YtohgomfnigdaoaaDoory28
set_option linter.all false
namespace Go.Lf
open Go Go.Lf.Pl
noncomputable section
def CX (b : BenchBook) (p : Int) : Int := match b.Pieces.ix p with
 | some x => x.Week
 | none => 0
def GV (b : BenchBook) (p : Int) : Nat := match b.Pieces.ix p with
 | some x => x.Parts.l.length
 | none => 0
def JA (b : BenchBook) (p k : Int) : Int := match b.Pieces.ix p with
 | some x => match x.Parts.ix k with
  | some y => y.Many
  | none => 0
 | none => 0
def J8 (b : BenchBook) (ex : Int → Bool) (w : AD) : Jd := ⟨w.at_.piece, w.at_.part, w.many.toNat, BD b ex w.at_.piece w.at_.part⟩
theorem bf (xs : List AC) (hn : xs.length < 4611686018427387904) (w : AD) (boy k : Int) : BJ (Sl.grow xs) w boy = some (Qq xs ⟨w.at_.piece, k, boy⟩) := by
 have e : Loop (A8 (Sl.grow xs) w boy) 0 = some (match xs.findIdx? (fun y => y.Piece == w.at_.piece && y.Boy == boy) with | some i => .inl (i : Int) | none => .inr ()) := by
  have main : ∀ post pre, xs = pre ++ post → Loop (A8 (Sl.grow xs) w boy) (pre.length : Int) = some (match post.findIdx? (fun y => y.Piece == w.at_.piece && y.Boy == boy) with | some i => .inl ((pre.length + i : Nat) : Int) | none => .inr ()) := by
   intro post
   induction post with
   | nil =>
    intro pre h
    simp only [List.append_nil] at h
    subst h
    have hl : ¬ (xs.length : Int) < (Sl.grow xs).len := by rw [O4]; omega
    exact Loop.done (by simp only [A8, decide_eq_false hl, Bool.false_eq_true, if_false]; rfl)
   | cons y post ih =>
    intro pre h
    have hgl : (Sl.grow xs).l = pre ++ y :: post := by rw [Sl.l_grow, h]
    have hl : (pre.length : Int) < (Sl.grow xs).len := by rw [O4, h]; simp; omega
    have hW : W ((pre.length : Int) + 1) = (pre.length : Int) + 1 := Q7 (by rw [h] at hn; simp at hn; omega)
    have hf : A8 (Sl.grow xs) w boy pre.length = if (y.Piece == w.at_.piece && y.Boy == boy) = true then some (.inr (.inl (pre.length : Int))) else some (.inl ((pre.length : Int) + 1)) := by
     simp only [A8, decide_eq_true hl, if_true, Sl.ix_at hgl, Option.bind_some, Cm, hW]
     rfl
    by_cases hc : (y.Piece == w.at_.piece && y.Boy == boy) = true
    ·rw [if_pos hc] at hf
     rw [Loop.done hf]
     simp [List.findIdx?_cons, hc]
    ·rw [if_neg hc] at hf
     rw [Loop.step hf]
     have := ih (pre ++ [y]) (by rw [h]; simp)
     simp only [List.length_append, List.length_cons, List.length_nil, Nat.zero_add] at this
     rw [show ((pre.length : Int) + 1) = ((pre.length + 1 : Nat) : Int) by simp, this]
     simp only [List.findIdx?_cons, hc, Bool.false_eq_true, if_false]
     cases post.findIdx? (fun y => y.Piece == w.at_.piece && y.Boy == boy) with
     | none => rfl
     | some i => simp; omega
  have := main xs [] rfl
  simpa using this
 have hany : Qq xs ⟨w.at_.piece, k, boy⟩ = (xs.findIdx? (fun y => y.Piece == w.at_.piece && y.Boy == boy)).isSome := by
  rw [List.findIdx?_isSome]; rfl
 simp only [BJ, DF, e, Option.bind_some, hany]
 cases xs.findIdx? (fun y => y.Piece == w.at_.piece && y.Boy == boy) with
 | none => rfl
 | some i => simp
def Z4 (b : BenchBook) (a : Ar 24 Int) (pre : List AC) : Prop := ∀ week boy : Int, 0 ≤ week → week < 6 → 0 ≤ boy → boy < 4 → a.ix (week * 4 + boy) = some ((Fe (CX b) pre week boy : Nat) : Int)
theorem pT (b : BenchBook) : Z4 b Bw [] := by
 intro week boy h1 h2 h3 h4
 have : (week * 4 + boy).toNat < 24 := by omega
 simp only [Ar.ix, Bw, if_pos (show 0 ≤ week * 4 + boy by omega), Fe, List.countP_nil]
 rw [List.getElem?_replicate, if_pos this]; rfl
theorem sN {b : BenchBook} {a : Ar 24 Int} {pre : List AC} (h : Z4 b a pre) {p k boy : Int} (hw : 0 ≤ CX b p ∧ CX b p < 6) (hb : 0 ≤ boy ∧ boy < 4) :
  Z4 b (a.put (CX b p * 4 + boy) (((Fe (CX b) pre (CX b p) boy : Nat) : Int) + 1)) (pre ++ [⟨p, k, boy⟩]) := by
 intro week y h1 h2 h3 h4
 have hl := a.h
 have hs : Fe (CX b) (pre ++ [⟨p, k, boy⟩]) week y = Fe (CX b) pre week y + if CX b p = week ∧ boy = y then 1 else 0 := by
  rw [IY]
  congr 1
  simp only [Fe, List.countP_cons, List.countP_nil]
  by_cases hc : CX b p = week ∧ boy = y
  ·simp [hc.1, hc.2]
  ·rw [if_neg hc]
   have : ¬ ((CX b p == week && boy == y) = true) := by simpa using hc
   simp [this]
 have h0 := h week y h1 h2 h3 h4
 simp only [Ar.ix, if_pos (show 0 ≤ week * 4 + y by omega)] at h0 ⊢
 rw [hs]
 by_cases hc : CX b p = week ∧ boy = y
 ·rw [if_pos hc, ← hc.1, ← hc.2]
  simp only [Ar.put]
  rw [List.getElem?_set_self (by omega)]
  simp
 ·rw [if_neg hc]
  simp only [Ar.put]
  rw [List.getElem?_set_ne (by omega), h0]
  simp
theorem sA {b : BenchBook} {a : Ar 24 Int} {pre : List AC} (h : Z4 b a pre) (hk : Bc.key a = Bc.key Bw) {week boy : Int} (h1 : 0 ≤ week) (h2 : week < 6) (h3 : 0 ≤ boy) (h4 : boy < 4) : Fe (CX b) pre week boy = 0 := by
 have hl : a.l = List.replicate 24 0 := hk
 have h0 := h week boy h1 h2 h3 h4
 simp only [Ar.ix, if_pos (show 0 ≤ week * 4 + boy by omega), hl] at h0
 rw [List.getElem?_replicate, if_pos (by omega)] at h0
 simp at h0
 omega
def qq (b : BenchBook) (ex : Int → Bool) : List AD → List AC → List (List AC)
 | [], pre => [pre]
 | w :: r, pre => Rt (CX b) b.Most.toNat w.at_.piece w.at_.part (fill (CX b) b.Most.toNat (r.map (J8 b ex))) ((BD b ex w.at_.piece w.at_.part).drop w.from_.toNat) w.many.toNat pre
theorem fy (b : BenchBook) (ex : Int → Bool) : ∀ (l : List AD) (pre : List AC), (∀ w ∈ l, w.from_ = 0) → qq b ex l pre = fill (CX b) b.Most.toNat (l.map (J8 b ex)) pre
 | [], _, _ => rfl
 | w :: r, pre, h => by
  have hw := h w List.mem_cons_self
  simp only [qq, List.map_cons, fill, J8, hw, Int.toNat_zero, List.drop_zero]
def qu : List AD → Nat
 | [] => 0
 | w :: r => w.many.toNat + 1 + qu r
structure WOk (b : BenchBook) (w : AD) : Prop where
 piece : 0 ≤ w.at_.piece ∧ w.at_.piece < b.Pieces.l.length
 many : 0 ≤ w.many ∧ w.many ≤ 3
theorem kP {b : BenchBook} {ex : Int → Bool} {p k boy : Int} (h : boy ∈ BD b ex p k) : 0 ≤ boy ∧ boy < b.Voice.Boys.l.length := by
 unfold BD at h
 split at h
 ·split at h
  ·exact G4.mp (List.mem_filter.mp h).1
  ·cases h
 ·cases h
theorem rT {α : Type} {x : Sl α} {a : α} {r : List α} (h : x.l = a :: r) : x.sub (some 1) none = some (.cold r) := by
 cases x with
 | nil => simp [Sl.l] at h
 | cold xs => simp only [Sl.l] at h; subst h; simp [Sl.sub]; omega
 | hot xs => simp only [Sl.l] at h; subst h; simp [Sl.sub]; omega
 | full xs => simp only [Sl.l] at h; subst h; simp [Sl.sub]; omega
section
variable {b : BenchBook} (hv : GT b) {ex : Int → Bool} {es : Zy} (hes : WhI es (BD b ex))
include hv hes
theorem jp {σ : Type} {yf : Sl AC → σ → Option (Bool × σ)} : ∀ (n : Nat) (l : List AD) (ls : Sl AD) (pre : List AC) (a : Ar 24 Int) (st : σ) (bb : Bool) (st' : σ),
  ls.l = l → Z4 b a pre → (∀ week boy, Fe (CX b) pre week boy ≤ b.Most.toNat) → (∀ w ∈ l, WOk b w) → (∀ w ∈ l.tail, w.from_ = 0) → (∀ w ∈ l, 0 ≤ w.from_ ∧ w.from_.toNat ≤ (BD b ex w.at_.piece w.at_.part).length) → qu l < n → n ≤ 64 → pre.length + qu l ≤ 100 → l.length ≤ 100 →
  UY yf ((qq b ex l pre).map Sl.grow) st = some (bb, st') → AW yf n (Sl.grow pre) ls a ⟨b, Mp.mk es⟩ st = some (bb, st')
 | 0, _, _, _, _, _, _, _, _, _, _, _, _, _, h, _, _, _, _ => by omega
 | n + 1, [], ls, pre, a, st, bb, st', hl, _, _, _, _, _, _, _, _, _, hr => by
  have h0 : ls.len = 0 := by rw [Sl.len_l, hl]; rfl
  simp only [AW, h0, decide_true, if_true]
  simp only [qq, List.map_cons, List.map_nil, UY] at hr
  cases hy : yf (Sl.grow pre) st with
  | none => rw [hy] at hr; cases hr
  | some q =>
   obtain ⟨b1, s1⟩ := q
   rw [hy] at hr
   cases b1 <;> simpa using hr
 | n + 1, w :: r, ls, pre, a, st, bb, st', hl, hs, hmx, hok, hfr, hfrom, hn, h64, hpre, hlen, hr => by
  have h0 : ¬ ls.len = 0 := by rw [Sl.len_l, hl]; simp; omega
  have hix : ls.ix 0 = some w := by
   have := Sl.ix_at (pre := []) (x := ls) hl
   simpa using this
  have hsub := rT hl
  have hw := hok w List.mem_cons_self
  have hrok : ∀ w' ∈ r, WOk b w' := fun w' h => hok w' (List.mem_cons_of_mem _ h)
  have hrfr : ∀ w' ∈ r, w'.from_ = 0 := hfr
  simp only [AW, decide_eq_false h0, Bool.false_eq_true, if_false, hix, Option.bind_some, hsub]
  by_cases hm : w.many = 0
  ·have ht : decide (w.many = 0) = true := by simp [hm]
   rw [if_pos ht]
   have e : qq b ex (w :: r) pre = qq b ex r pre := by
    rw [fy b ex r pre hrfr]
    simp only [qq, hm, Int.toNat_zero]
    cases (BD b ex w.at_.piece w.at_.part).drop w.from_.toNat <;> rfl
   rw [e] at hr
   simp only [qu] at hn hpre
   have := jp n r (.cold r) pre a st bb st' rfl hs hmx hrok (fun w' h => hrfr w' (List.mem_of_mem_tail h)) (fun w' h => by rw [hrfr w' h]; exact ⟨by omega, by simp⟩) (by omega) (by omega) (by omega) (by simp at hlen; omega) hr
   rw [this]; rfl
  ·have ht : ¬ decide (w.many = 0) = true := by simp [hm]
   rw [if_neg ht]
   obtain ⟨x, hx, hxm⟩ := dH hw.piece.1 hw.piece.2
   have hwk : CX b w.at_.piece = x.Week := by simp [CX, hx]
   have hweek := hv.week x hxm
   have hw6 : x.Week < 6 := by have := hv.voice.weeks; omega
   have hboys := hv.voice.boys
   have hmost := hv.most
   have hab := mD hes w.at_.piece w.at_.part
   have habl : (Mp.get (Mp.mk es : Mp 2 (Sl Int)) (Bc.key w.at_)).getD (Sl.nil : Sl Int) = (Mp.get (Mp.mk es : Mp 2 (Sl Int)) (Bc.key (AG.mk w.at_.piece w.at_.part))).getD (Sl.nil : Sl Int) := rfl
   obtain ⟨m, hmm⟩ : ∃ m, w.many.toNat = m + 1 := ⟨w.many.toNat - 1, by have := hw.many; omega⟩
   have hable4 : (BD b ex w.at_.piece w.at_.part).length ≤ 4 := by
    simp only [BD, hx]
    cases x.Parts.ix w.at_.part with
    | none => simp
    | some y =>
     have := List.length_filter_le (fun boy => !ex boy && Yf b x.Week y.Notes boy) (idx b.Voice.Boys.l.length)
     simp only [jg]; rw [Ao] at this; omega
   have main : ∀ (rest : List Int) (i : Nat) (st : σ), (BD b ex w.at_.piece w.at_.part).drop i = rest → i ≤ (BD b ex w.at_.piece w.at_.part).length →
     UY yf ((Rt (CX b) b.Most.toNat w.at_.piece w.at_.part (fill (CX b) b.Most.toNat (r.map (J8 b ex))) rest (m + 1) pre).map Sl.grow) st = some (bb, st') →
     Loop (Aj (AW yf n) (Sl.grow pre) ls a ⟨b, Mp.mk es⟩ w) (st, (i : Int)) = some (if bb then .inr st' else .inl (false, st')) := by
    intro rest
    induction rest with
    | nil =>
     intro i st hd hi hr
     have hi2 : i = (BD b ex w.at_.piece w.at_.part).length := by
      have := congrArg List.length hd
      simp at this; omega
     have hlt : ¬ (i : Int) < ((Mp.get (Mp.mk es : Mp 2 (Sl Int)) (Bc.key w.at_)).getD (Sl.nil : Sl Int)).len := by rw [habl, Sl.len_l, hab, hi2]; omega
     simp only [Rt, List.map_nil, UY, Option.some.injEq, Prod.mk.injEq] at hr
     obtain ⟨rfl, rfl⟩ := hr
     exact Loop.done (by simp only [Aj, decide_eq_false hlt, Bool.false_eq_true, if_false]; rfl)
    | cons boy rest ih =>
     intro i st hd hi hr
     have hig : (BD b ex w.at_.piece w.at_.part)[i]? = some boy := by
      have := congrArg (fun l => l[0]?) hd
      simpa using this
     have hil : i < (BD b ex w.at_.piece w.at_.part).length := (List.getElem?_eq_some_iff.mp hig).1
     have hd1 : (BD b ex w.at_.piece w.at_.part).drop (i + 1) = rest := by
      rw [← List.drop_drop, hd]; rfl
     have hbm := kP (List.mem_of_getElem? hig)
     have hlt : (i : Int) < ((Mp.get (Mp.mk es : Mp 2 (Sl Int)) (Bc.key w.at_)).getD (Sl.nil : Sl Int)).len := by rw [habl, Sl.len_l, hab]; omega
     have hbix : ((Mp.get (Mp.mk es : Mp 2 (Sl Int)) (Bc.key w.at_)).getD (Sl.nil : Sl Int)).ix (i : Int) = some boy := by rw [habl, Sl.ix_nat, hab]; exact hig
     have hWi : W ((i : Int) + 1) = ((i + 1 : Nat) : Int) := by rw [Q7 (by omega)]; simp
     have hWx : W (W (x.Week * 4) + boy) = x.Week * 4 + boy := by rw [TK (x := x.Week * 4) (by omega) (by omega), TK (by omega) (by omega)]
     have hcl := bf pre (by omega) w boy w.at_.part
     have hsx := hs x.Week boy hweek.1 hw6 hbm.1 (by omega)
     have ho : (Option.bind (BJ (Sl.grow pre) w boy) fun v31 => if v31 then some (true) else if (decide (Bc.key a = Bc.key Bw)) then some (false) else Option.bind (a.ix (W ((W (x.Week * 4)) + boy))) fun v36 => some ((decide (v36 = b.Most))) : Option (Bool)) = some (!I7 (CX b) b.Most.toNat pre ⟨w.at_.piece, w.at_.part, boy⟩) := by
      rw [hcl, Option.bind_some]
      simp only [I7, hwk]
      by_cases hc : Qq pre ⟨w.at_.piece, w.at_.part, boy⟩ = true
      ·simp [hc]
      ·have hc' : Qq pre ⟨w.at_.piece, w.at_.part, boy⟩ = false := by simpa using hc
       rw [hc']
       simp only [Bool.false_eq_true, if_false, Bool.not_false, Bool.true_and]
       by_cases hk : Bc.key a = Bc.key Bw
       ·have hz := sA hs hk hweek.1 hw6 hbm.1 (by omega : boy < 4)
        have : Fe (CX b) pre x.Week boy < b.Most.toNat := by omega
        simp [hk, this]
       ·rw [hWx, hsx]
        simp only [hk, decide_false, Bool.false_eq_true, if_false, Option.bind_some]
        congr 1
        have := hmx x.Week boy
        rw [Bool.eq_iff_iff]
        simp only [decide_eq_true_eq, Bool.not_eq_true', decide_eq_false_iff_not]
        omega
     rw [Rt] at hr
     by_cases hst : I7 (CX b) b.Most.toNat pre ⟨w.at_.piece, w.at_.part, boy⟩ = true
     ·rw [if_pos hst, List.map_append, QY] at hr
      have hlt2 : Fe (CX b) pre x.Week boy < b.Most.toNat := by
       simp only [I7, hwk, Bool.and_eq_true, decide_eq_true_eq] at hst
       exact hst.2
      have hWm : W (w.many - 1) = w.many - 1 := by have := hw.many; exact TK (by omega) (by omega)
      have hWs : W (((Fe (CX b) pre x.Week boy : Nat) : Int) + 1) = ((Fe (CX b) pre x.Week boy : Nat) : Int) + 1 := Q7 (by omega)
      have happ1 : Sl.app 32 (Sl.hot [(AD.mk w.at_ (w.many - 1) ((i + 1 : Nat) : Int))] : Sl AD) r = some (.hot ((AD.mk w.at_ (w.many - 1) ((i + 1 : Nat) : Int)) :: r)) := Sl.app_hot (q := 32) (Bl (by simp at hlen ⊢; omega) (by omega))
      have happ2 : Sl.app 24 (Sl.grow pre).filled [(AC.mk w.at_.piece w.at_.part boy)] = some (Sl.grow (pre ++ [⟨w.at_.piece, w.at_.part, boy⟩])) := by
       rw [Sl.app_filled (q := 24) (by simp) (Bl (by rw [Sl.l_grow]; simp; omega) (by omega)), Sl.l_grow]
       simp [Sl.grow]
      have step1 : ∀ (b1 : Bool) (s1 : σ), AW yf n (Sl.grow (pre ++ [⟨w.at_.piece, w.at_.part, boy⟩])) (.hot ((AD.mk w.at_ (w.many - 1) ((i + 1 : Nat) : Int)) :: r)) (a.put (x.Week * 4 + boy) (((Fe (CX b) pre x.Week boy : Nat) : Int) + 1)) ⟨b, Mp.mk es⟩ st = some (b1, s1) →
        Aj (AW yf n) (Sl.grow pre) ls a ⟨b, Mp.mk es⟩ w (st, (i : Int)) = some (if b1 then .inl (s1, ((i + 1 : Nat) : Int)) else .inr (.inl (false, s1))) := by
       intro b1 s1 h1
       simp only [Aj, decide_eq_true hlt, if_true, hbix, Option.bind_some, hx]
       rw [ho]
       simp only [Option.bind_some, hst, Bool.not_true, Bool.false_eq_true, if_false, hWx, hsx, hsub, Sl.l_cold, hWm, hWi, happ1, Sl.sub3_all, happ2, hWs, h1]
       cases b1 <;> rfl
      have hput : Z4 b (a.put (x.Week * 4 + boy) (((Fe (CX b) pre x.Week boy : Nat) : Int) + 1)) (pre ++ [⟨w.at_.piece, w.at_.part, boy⟩]) := by
       have := sN hs (p := w.at_.piece) (k := w.at_.part) (boy := boy) (by rw [hwk]; omega) (by omega)
       rwa [hwk] at this
      have hmx2 : ∀ week y, Fe (CX b) (pre ++ [⟨w.at_.piece, w.at_.part, boy⟩]) week y ≤ b.Most.toNat := by
       intro week y
       have h1 := hmx week y
       rw [IY]
       have : Fe (CX b) [⟨w.at_.piece, w.at_.part, boy⟩] week y = if x.Week = week ∧ boy = y then 1 else 0 := by
        simp only [Fe, List.countP_cons, List.countP_nil, hwk]
        by_cases hc : x.Week = week ∧ boy = y
        ·simp [hc.1, hc.2]
        ·rw [if_neg hc]
         have : ¬ ((x.Week == week && boy == y) = true) := by simpa using hc
         simp [this]
       rw [this]
       by_cases hc : x.Week = week ∧ boy = y
       ·rw [if_pos hc, ← hc.1, ← hc.2]; omega
       ·rw [if_neg hc]; omega
      simp only [qu] at hn hpre
      have hrec := fun b1 s1 => jp (yf := yf) n ((AD.mk w.at_ (w.many - 1) ((i + 1 : Nat) : Int)) :: r) (.hot ((AD.mk w.at_ (w.many - 1) ((i + 1 : Nat) : Int)) :: r)) (pre ++ [⟨w.at_.piece, w.at_.part, boy⟩]) _ st b1 s1 rfl hput hmx2
       (by
        intro w' hw'
        rcases List.mem_cons.mp hw' with rfl | hw'
        ·exact ⟨hw.piece, by have := hw.many; simp only; omega⟩
        ·exact hrok w' hw') hrfr (by
        intro w' hw'
        rcases List.mem_cons.mp hw' with rfl | hw'
        ·simp only; omega
        ·rw [hrfr w' hw']; exact ⟨by omega, by simp⟩) (by simp only [qu]; have := hw.many; omega) (by omega) (by simp only [qu, List.length_append, List.length_cons, List.length_nil]; have := hw.many; omega) (by simpa using hlen)
      have hspec : qq b ex ((AD.mk w.at_ (w.many - 1) ((i + 1 : Nat) : Int)) :: r) (pre ++ [⟨w.at_.piece, w.at_.part, boy⟩]) = Rt (CX b) b.Most.toNat w.at_.piece w.at_.part (fill (CX b) b.Most.toNat (r.map (J8 b ex))) rest m (pre ++ [⟨w.at_.piece, w.at_.part, boy⟩]) := by
       have h1 : (w.many - 1).toNat = m := by omega
       simp only [qq, Int.toNat_natCast, hd1, h1]
      rw [hspec] at hrec
      cases hrun : UY yf ((Rt (CX b) b.Most.toNat w.at_.piece w.at_.part (fill (CX b) b.Most.toNat (r.map (J8 b ex))) rest m (pre ++ [⟨w.at_.piece, w.at_.part, boy⟩])).map Sl.grow) st with
      | none => rw [hrun] at hr; cases hr
      | some q =>
       obtain ⟨b1, s1⟩ := q
       rw [hrun] at hr
       have h1 := step1 b1 s1 (hrec b1 s1 hrun)
       cases b1 with
       | false =>
        simp only [Option.some.injEq, Prod.mk.injEq] at hr
        obtain ⟨rfl, rfl⟩ := hr
        exact Loop.done h1
       | true =>
        rw [Loop.step h1]
        exact ih (i + 1) s1 hd1 (by omega) hr
     ·rw [if_neg hst, List.nil_append] at hr
      have hst' : I7 (CX b) b.Most.toNat pre ⟨w.at_.piece, w.at_.part, boy⟩ = false := by simpa using hst
      have h1 : Aj (AW yf n) (Sl.grow pre) ls a ⟨b, Mp.mk es⟩ w (st, (i : Int)) = some (.inl (st, ((i + 1 : Nat) : Int))) := by
       simp only [Aj, decide_eq_true hlt, if_true, hbix, Option.bind_some, hx]
       rw [ho]
       simp only [Option.bind_some, hst', Bool.not_false, if_true, hWi]
      rw [Loop.step h1]
      exact ih (i + 1) st hd1 (by omega) hr
   have hf := hfrom w List.mem_cons_self
   have := main _ w.from_.toNat st rfl hf.2 (by simpa only [qq, hmm] using hr)
   rw [show ((w.from_.toNat : Nat) : Int) = w.from_ by omega] at this
   rw [this, Option.bind_some]
   cases bb <;> rfl
end
end
end Go.Lf
