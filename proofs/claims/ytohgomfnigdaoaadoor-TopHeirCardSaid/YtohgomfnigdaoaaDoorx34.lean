/- A part of the proof. -/
import Derived.Test.YtohgomfnigdaoaaDoorx33
set_option linter.all false
namespace Go.Lf
open Go Go.Lf.Pl
noncomputable section
def Ba : Int → Bool := fun _ => false
def tg (b : BenchBook) : List (List AC) := Io b Ba 3 (yX b.Pieces.l.length)
def A7 (b : BenchBook) (ex : Int → Bool) : List Int := Di b.Pieces.l.length (S9 b ex)
def nJ (b : BenchBook) : List Int := (yX b.Voice.Boys.l.length).filter fun boy => decide ((A7 b Ba).length < (A7 b fun i => decide (i = boy)).length)
theorem gI {b : BenchBook} (hv : F5 b) : pr b (yX b.Pieces.l.length) := by rw [← RZ hv]; exact bG hv []
theorem kh : ∀ (L : List (List AC)) (k : Nat), k + L.length ≤ 100000000000 → UI (onL Fq) (L.map Sl.grow) (.inl (k : Int)) = some (true, .inl ((k + L.length : Nat) : Int))
 | [], k, _ => rfl
 | x :: L, k, h => by
  have hW : W ((k : Int) + 1) = ((k + 1 : Nat) : Int) := by rw [QB (by simp at h; omega)]; simp
  have := kh L (k + 1) (by simp at h ⊢; omega)
  simp only [List.map_cons, UI, onL, Fq, hW, this]
  simp; omega
section
variable {b : BenchBook} (hf : oc b)
include hf
theorem qG : FX b = some (if BC b true = 0 then (((tg b).length : Int), 0) else (0, BC b true)) := by
 obtain ⟨bk, he, h2⟩ := Ez hf true
 simp only [FX, he, Option.bind_some]
 by_cases h0 : BC b true = 0
 ·obtain ⟨hv, _, hfi⟩ := HE hf h0
  obtain ⟨es, rfl, hes⟩ := h2 h0
  have h1 := an hv (Mp.mk es) (Sl.nil : Sl Int) (by simp [Sl.l])
  rw [Sl.l_nil, RZ hv] at h1
  have hw := Vl hv (Mp.mk es) (a1 := Sl.grow (yX b.Pieces.l.length)) (by rw [Sl.l_grow]; exact gI hv) (m := 3) (by omega)
  rw [Sl.l_grow] at hw
  have hlen := rU hv Ba 3 (ps := yX b.Pieces.l.length) (gI hv).1
  have hr := kh (tg b) 0 (by simp only [tg]; omega)
  have := nH hv hes (yf := onL Fq) (m := 3) (gI hv) hr
  simp only [Nat.zero_add] at this
  rw [if_pos h0, h0]
  simp only [decide_true, if_true, h1, Option.bind_some, hw, show (3 : Int).toNat = 3 from rfl]
  have e0 : ((0 : Nat) : Int) = 0 := rfl
  rw [e0] at this
  rw [this]; rfl
 ·simp [h0]
theorem qZ : ∃ l : Sl AC, Ks b = some (l, if BC b true = 0 then (if (tg b).isEmpty then 4 else 0) else BC b true) ∧ l.l = if BC b true = 0 then (tg b).head?.getD [] else [] := by
 obtain ⟨bk, he, h2⟩ := Ez hf true
 simp only [Ks, he, Option.bind_some]
 by_cases h0 : BC b true = 0
 ·obtain ⟨hv, _, hfi⟩ := HE hf h0
  obtain ⟨es, rfl, hes⟩ := h2 h0
  have h1 := an hv (Mp.mk es) (Sl.nil : Sl Int) (by simp [Sl.l])
  rw [Sl.l_nil, RZ hv] at h1
  have hw := Vl hv (Mp.mk es) (a1 := Sl.grow (yX b.Pieces.l.length)) (by rw [Sl.l_grow]; exact gI hv) (m := 3) (by omega)
  rw [Sl.l_grow] at hw
  have hfst := cI hv hes (m := 3) (gI hv)
  simp only [if_pos h0, h0, decide_true, if_true, h1, Option.bind_some, hw, show (3 : Int).toNat = 3 from rfl, hfst]
  cases hA : Io b (fun _ => false) 3 (yX b.Pieces.l.length) with
  | nil =>
   have hB : tg b = [] := hA
   simp only [JX, hB]
   exact ⟨Sl.nil, rfl, rfl⟩
  | cons x L =>
   have hB : tg b = x :: L := hA
   simp only [JX, hB]
   exact ⟨(Sl.grow x).filled, rfl, by rw [Sl.l_filled, Sl.l_grow]; rfl⟩
 ·simp only [if_neg h0, decide_eq_false h0, Bool.false_eq_true, if_false]
  exact ⟨Sl.nil, rfl, rfl⟩
theorem Yz : ∃ l : Sl AC, Jh b = some (l, BC b true) ∧ l.l = if BC b true = 0 then LY b Ba else [] := by
 obtain ⟨bk, he, h2⟩ := Ez hf true
 simp only [Jh, he, Option.bind_some]
 by_cases h0 : BC b true = 0
 ·obtain ⟨hv, _, hfi⟩ := HE hf h0
  obtain ⟨es, rfl, hes⟩ := h2 h0
  obtain ⟨o, h1, _, h3⟩ := XS hv hes
  simp only [if_pos h0, h0, decide_true, if_true, h1, Option.bind_some]
  exact ⟨_, rfl, h3⟩
 ·simp only [if_neg h0, decide_eq_false h0, Bool.false_eq_true, if_false]
  exact ⟨Sl.nil, rfl, rfl⟩
omit hf in
theorem ui (a v : Int) : Hz a (Sl.cold [v]) = some (min a v) := ot a v
theorem cP : ∃ l : Sl Int, Fe b = some (l, BC b true) ∧ l.l = if BC b true = 0 then nJ b else [] := by
 obtain ⟨bk, he, h2⟩ := Ez hf true
 simp only [Fe, he, Option.bind_some]
 by_cases h0 : BC b true = 0
 ·obtain ⟨hv, _, hfi⟩ := HE hf h0
  obtain ⟨es, rfl, hes⟩ := h2 h0
  obtain ⟨o, h1, h3, _⟩ := XS hv hes
  have hb4 := hv.voice.boys
  have e : Loop (D6 b o) (Sl.nil, 0) = some (Sl.grow (nJ b)) := by
   refine GX (fun t i => (t, i)) (yX b.Voice.Boys.l.length) (fun pre => Sl.grow (pre.filter fun boy => decide ((A7 b Ba).length < (A7 b fun i => decide (i = boy)).length))) (by rw [An]; omega) rfl ?_ ?_
   ·intro pre boy post hpre hW
    obtain ⟨hbp, hlt0⟩ := P0 hpre
    have hlt : (pre.length : Int) < b.Voice.Boys.len := by rw [Sl.len_l]; exact hlt0
    obtain ⟨es2, hes2, ho2⟩ := sY hv hfi fun i => decide (i = (pre.length : Int))
    obtain ⟨o2, g1, g3, _⟩ := XS hv hes2
    have hle := List.length_filter_le (fun boy => decide ((A7 b Ba).length < (A7 b fun i => decide (i = boy)).length)) pre
    have hlen : (pre.filter fun boy => decide ((A7 b Ba).length < (A7 b fun i => decide (i = boy)).length)).length + ([(pre.length : Int)] : List Int).length ≤ 1000000000 := by rw [List.length_singleton]; omega
    have hl1 : o.1.len = ((A7 b Ba).length : Int) := by rw [Sl.len_l, h3]; rfl
    have hl2 : o2.1.len = ((A7 b fun i => decide (i = (pre.length : Int))).length : Int) := by rw [Sl.len_l, g3]; rfl
    rw [JJ, hbp]
    simp only [D6, decide_eq_true hlt, if_true, i5, ho2, Option.bind_some, g1, ui, hl1, hl2, hW]
    by_cases hc : (A7 b Ba).length < (A7 b fun i => decide (i = (pre.length : Int))).length
    ·have hc2 : min ((A7 b Ba).length : Int) ((A7 b fun i => decide (i = (pre.length : Int))).length : Int) < ((A7 b fun i => decide (i = (pre.length : Int))).length : Int) := by omega
     simp only [decide_eq_true hc2, decide_eq_true hc, if_true, Sl.app_grow (q := 8) (List.cons_ne_nil _ _) (C9 hlen (by omega)), Option.bind_some]
    ·have hc2 : ¬ min ((A7 b Ba).length : Int) ((A7 b fun i => decide (i = (pre.length : Int))).length : Int) < ((A7 b fun i => decide (i = (pre.length : Int))).length : Int) := by omega
     simp only [decide_eq_false hc2, decide_eq_false hc, Bool.false_eq_true, if_false, List.append_nil]
   ·have hlt : ¬ ((yX b.Voice.Boys.l.length).length : Int) < b.Voice.Boys.len := by rw [Sl.len_l, An]; omega
    simp only [D6, decide_eq_false hlt, Bool.false_eq_true, if_false, nJ]
  simp only [if_pos h0, h0, decide_true, if_true, h1, Option.bind_some, e, Sl.sub3_all]
  exact ⟨_, rfl, by rw [Sl.l_filled, Sl.l_grow]⟩
 ·simp only [if_neg h0, decide_eq_false h0, Bool.false_eq_true, if_false]
  exact ⟨Sl.nil, rfl, rfl⟩
omit hf in
theorem qD {b : BenchBook} (hv : F5 b) (ex : Int → Bool) {m : Nat} {ps : List Int} (hp : pr b ps) {x : List AC} (hx : x ∈ Io b ex m ps) : x.length ≤ 1000 := by
 have hall : ∀ (W : List P4) (x : List AC), x ∈ G3 W → (∀ w ∈ W, w.many ≤ 3) → x.length ≤ 3 * W.length := by
  intro W
  induction W with
  | nil => intro x hx _; simp [G3] at hx; subst hx; simp
  | cons w W ih =>
   intro x hx hw
   simp only [G3, List.mem_flatMap, List.mem_map] at hx
   obtain ⟨c, hc, r, hr, rfl⟩ := hx
   have h1 := IO hc
   have h2 := ih r hr fun w' h => hw w' (List.mem_cons_of_mem _ h)
   have h3 := hw w List.mem_cons_self
   simp only [BG, List.length_append, List.length_map, List.length_cons]; omega
 simp only [Io, KZ, List.nil_append, List.map_id', List.mem_filter] at hx
 have h1 := hall _ x hx.1 (by
  intro w hw
  simp only [HO, List.mem_map] at hw
  obtain ⟨w', hw', rfl⟩ := hw
  have := (XE hv m hp hw').1.many
  simp only [LU]; omega)
 have h2 := Oo hv m hp.1
 simp only [HO, List.length_map] at h1
 omega
end
end
end Go.Lf
