/- A part of the proof. -/
import Derived.Test.YtpkbckdhkaggbaaDoorx40
set_option linter.all false
namespace Go.Lf
open Go Go.Lf.Pl
noncomputable section
def A0 : Int → Bool := fun _ => false
def nC (b : BenchBook) : List (List AC) := Ky b A0 3 (ue b.Pieces.l.length)
def BL (b : BenchBook) (ex : Int → Bool) : List Int := F9 b.Pieces.l.length (S4 b ex)
def i8 (b : BenchBook) : List Int := (ue b.Voice.Boys.l.length).filter fun boy => decide ((BL b A0).length < (BL b fun i => decide (i = boy)).length)
theorem cS {b : BenchBook} (hv : Ez b) : mX b (ue b.Pieces.l.length) := by rw [← PL hv]; exact Zb hv []
theorem f6 : ∀ (L : List (List AC)) (k : Nat), k + L.length ≤ 100000000000 → QM (t9 Ft) (L.map Sl.grow) (.inl (k : Int)) = some (true, .inl ((k + L.length : Nat) : Int))
 | [], k, _ => rfl
 | x :: L, k, h => by
  have hW : W ((k : Int) + 1) = ((k + 1 : Nat) : Int) := by rw [LA (by simp at h; omega)]; simp
  have := f6 L (k + 1) (by simp at h ⊢; omega)
  simp only [List.map_cons, QM, t9, Ft, hW, this]
  simp; omega
section
variable {b : BenchBook} (hf : TG b)
include hf
theorem Za : JR b = some (if AZ b true = 0 then (((nC b).length : Int), 0) else (0, AZ b true)) := by
 obtain ⟨bk, he, h2⟩ := C3 hf true
 simp only [JR, he, Option.bind_some]
 by_cases h0 : AZ b true = 0
 ·obtain ⟨hv, _, hfi⟩ := D6 hf h0
  obtain ⟨es, rfl, hes⟩ := h2 h0
  have h1 := YI hv (Mp.mk es) (Sl.nil : Sl Int) (by simp [Sl.l])
  rw [Sl.l_nil, PL hv] at h1
  have hw := QB hv (Mp.mk es) (a1 := Sl.grow (ue b.Pieces.l.length)) (by rw [Sl.l_grow]; exact cS hv) (m := 3) (by omega)
  rw [Sl.l_grow] at hw
  have hlen := nz hv A0 3 (ps := ue b.Pieces.l.length) (cS hv).1
  have hr := f6 (nC b) 0 (by simp only [nC]; omega)
  have := bp hv hes (yf := t9 Ft) (m := 3) (cS hv) hr
  simp only [Nat.zero_add] at this
  rw [if_pos h0, h0]
  simp only [decide_true, if_true, h1, Option.bind_some, hw, show (3 : Int).toNat = 3 from rfl]
  have e0 : ((0 : Nat) : Int) = 0 := rfl
  rw [e0] at this
  rw [this]; rfl
 ·simp [h0]
theorem ZV : ∃ l : Sl AC, Jh b = some (l, if AZ b true = 0 then (if (nC b).isEmpty then 4 else 0) else AZ b true) ∧ l.l = if AZ b true = 0 then (nC b).head?.getD [] else [] := by
 obtain ⟨bk, he, h2⟩ := C3 hf true
 simp only [Jh, he, Option.bind_some]
 by_cases h0 : AZ b true = 0
 ·obtain ⟨hv, _, hfi⟩ := D6 hf h0
  obtain ⟨es, rfl, hes⟩ := h2 h0
  have h1 := YI hv (Mp.mk es) (Sl.nil : Sl Int) (by simp [Sl.l])
  rw [Sl.l_nil, PL hv] at h1
  have hw := QB hv (Mp.mk es) (a1 := Sl.grow (ue b.Pieces.l.length)) (by rw [Sl.l_grow]; exact cS hv) (m := 3) (by omega)
  rw [Sl.l_grow] at hw
  have hfst := ZJ hv hes (m := 3) (cS hv)
  simp only [if_pos h0, h0, decide_true, if_true, h1, Option.bind_some, hw, show (3 : Int).toNat = 3 from rfl, hfst]
  cases hA : Ky b (fun _ => false) 3 (ue b.Pieces.l.length) with
  | nil =>
   have hB : nC b = [] := hA
   simp only [I4, hB]
   exact ⟨Sl.nil, rfl, rfl⟩
  | cons x L =>
   have hB : nC b = x :: L := hA
   simp only [I4, hB]
   exact ⟨(Sl.grow x).filled, rfl, by rw [Sl.l_filled, Sl.l_grow]; rfl⟩
 ·simp only [if_neg h0, decide_eq_false h0, Bool.false_eq_true, if_false]
  exact ⟨Sl.nil, rfl, rfl⟩
theorem Ie : ∃ l : Sl Int, D2 b = some (l, AZ b true) ∧ l.l = if AZ b true = 0 then BL b A0 else [] := by
 obtain ⟨bk, he, h2⟩ := C3 hf true
 simp only [D2, he, Option.bind_some]
 by_cases h0 : AZ b true = 0
 ·obtain ⟨hv, _, hfi⟩ := D6 hf h0
  obtain ⟨es, rfl, hes⟩ := h2 h0
  obtain ⟨o, h1, h3, _⟩ := Om hv hes
  simp only [if_pos h0, h0, decide_true, if_true, h1, Option.bind_some, Sl.sub3_all]
  exact ⟨_, rfl, by rw [Sl.l_filled, h3]; rfl⟩
 ·simp only [if_neg h0, decide_eq_false h0, Bool.false_eq_true, if_false]
  exact ⟨Sl.nil, rfl, rfl⟩
theorem Nh : ∃ l : Sl AC, Gf b = some (l, AZ b true) ∧ l.l = if AZ b true = 0 then NP b A0 else [] := by
 obtain ⟨bk, he, h2⟩ := C3 hf true
 simp only [Gf, he, Option.bind_some]
 by_cases h0 : AZ b true = 0
 ·obtain ⟨hv, _, hfi⟩ := D6 hf h0
  obtain ⟨es, rfl, hes⟩ := h2 h0
  obtain ⟨o, h1, _, h3⟩ := Om hv hes
  simp only [if_pos h0, h0, decide_true, if_true, h1, Option.bind_some]
  exact ⟨_, rfl, h3⟩
 ·simp only [if_neg h0, decide_eq_false h0, Bool.false_eq_true, if_false]
  exact ⟨Sl.nil, rfl, rfl⟩
omit hf in
theorem qw (a v : Int) : J1 a (Sl.cold [v]) = some (min a v) := lG a v
theorem O0 : ∃ l : Sl Int, H5 b = some (l, AZ b true) ∧ l.l = if AZ b true = 0 then i8 b else [] := by
 obtain ⟨bk, he, h2⟩ := C3 hf true
 simp only [H5, he, Option.bind_some]
 by_cases h0 : AZ b true = 0
 ·obtain ⟨hv, _, hfi⟩ := D6 hf h0
  obtain ⟨es, rfl, hes⟩ := h2 h0
  obtain ⟨o, h1, h3, _⟩ := Om hv hes
  have hb4 := hv.voice.boys
  have e : Loop (Eq b o) (Sl.nil, 0) = some (Sl.grow (i8 b)) := by
   refine FG (fun t i => (t, i)) (ue b.Voice.Boys.l.length) (fun pre => Sl.grow (pre.filter fun boy => decide ((BL b A0).length < (BL b fun i => decide (i = boy)).length))) (by rw [Aw]; omega) rfl ?_ ?_
   ·intro pre boy post hpre hW
    obtain ⟨hbp, hlt0⟩ := RO hpre
    have hlt : (pre.length : Int) < b.Voice.Boys.len := by rw [Sl.len_l]; exact hlt0
    obtain ⟨es2, hes2, ho2⟩ := pB hv hfi fun i => decide (i = (pre.length : Int))
    obtain ⟨o2, g1, g3, _⟩ := Om hv hes2
    have hle := List.length_filter_le (fun boy => decide ((BL b A0).length < (BL b fun i => decide (i = boy)).length)) pre
    have hlen : (pre.filter fun boy => decide ((BL b A0).length < (BL b fun i => decide (i = boy)).length)).length + ([(pre.length : Int)] : List Int).length ≤ 1000000000 := by rw [List.length_singleton]; omega
    have hl1 : o.1.len = ((BL b A0).length : Int) := by rw [Sl.len_l, h3]; rfl
    have hl2 : o2.1.len = ((BL b fun i => decide (i = (pre.length : Int))).length : Int) := by rw [Sl.len_l, g3]; rfl
    rw [Ko, hbp]
    simp only [Eq, decide_eq_true hlt, if_true, eg, ho2, Option.bind_some, g1, qw, hl1, hl2, hW]
    by_cases hc : (BL b A0).length < (BL b fun i => decide (i = (pre.length : Int))).length
    ·have hc2 : min ((BL b A0).length : Int) ((BL b fun i => decide (i = (pre.length : Int))).length : Int) < ((BL b fun i => decide (i = (pre.length : Int))).length : Int) := by omega
     simp only [decide_eq_true hc2, decide_eq_true hc, if_true, Sl.app_grow (q := 8) (List.cons_ne_nil _ _) (B2 hlen (by omega)), Option.bind_some]
    ·have hc2 : ¬ min ((BL b A0).length : Int) ((BL b fun i => decide (i = (pre.length : Int))).length : Int) < ((BL b fun i => decide (i = (pre.length : Int))).length : Int) := by omega
     simp only [decide_eq_false hc2, decide_eq_false hc, Bool.false_eq_true, if_false, List.append_nil]
   ·have hlt : ¬ ((ue b.Voice.Boys.l.length).length : Int) < b.Voice.Boys.len := by rw [Sl.len_l, Aw]; omega
    simp only [Eq, decide_eq_false hlt, Bool.false_eq_true, if_false, i8]
  simp only [if_pos h0, h0, decide_true, if_true, h1, Option.bind_some, e, Sl.sub3_all]
  exact ⟨_, rfl, by rw [Sl.l_filled, Sl.l_grow]⟩
 ·simp only [if_neg h0, decide_eq_false h0, Bool.false_eq_true, if_false]
  exact ⟨Sl.nil, rfl, rfl⟩
omit hf in
theorem lE (x y : Sl AC) (hn : x.l.length < 4611686018427387904) (hxy : x.l = y.l) : Fa x y = some true := by
 have h0 : decide (x.len = y.len) = true := by simp [Sl.len_l, hxy]
 have e : Loop (Dh x y) (decide (x.len = y.len), 0) = some true := by
  have := Loop.all (f := Dh x y) (fun t i => (t, i)) x.l (fun _ => true) id (x0 := (decide (x.len = y.len), 0)) (b0 := true) hn (by rw [h0]) (by
   intro pre a post hpre _ _ hW
   have hlt : (pre.length : Int) < x.len := by rw [Sl.len_l, hpre]; simp; omega
   have hy : y.ix pre.length = some a := Sl.ix_at (by rw [← hxy]; exact hpre)
   simp only [Dh, Bool.true_and, decide_eq_true hlt, if_true, Sl.ix_at hpre, hy, Option.bind_some, decide_true, hW]) (by
   have hlt : ¬ (x.l.length : Int) < x.len := by rw [Sl.len_l]; omega
   simp [Dh, hlt]) (by intro i; simp [Dh])
  rw [this]; simp
 simp only [Fa, e, Option.bind_some]
omit hf in
theorem gK {b : BenchBook} (hv : Ez b) (ex : Int → Bool) {m : Nat} {ps : List Int} (hp : mX b ps) {x : List AC} (hx : x ∈ Ky b ex m ps) : x.length ≤ 1000 := by
 have hall : ∀ (W : List ox) (x : List AC), x ∈ fw W → (∀ w ∈ W, w.many ≤ 3) → x.length ≤ 3 * W.length := by
  intro W
  induction W with
  | nil => intro x hx _; simp [fw] at hx; subst hx; simp
  | cons w W ih =>
   intro x hx hw
   simp only [fw, List.mem_flatMap, List.mem_map] at hx
   obtain ⟨c, hc, r, hr, rfl⟩ := hx
   have h1 := I2 hc
   have h2 := ih r hr fun w' h => hw w' (List.mem_cons_of_mem _ h)
   have h3 := hw w List.mem_cons_self
   simp only [HZ, List.length_append, List.length_map, List.length_cons]; omega
 simp only [Ky, Y9, List.nil_append, List.map_id', List.mem_filter] at hx
 have h1 := hall _ x hx.1 (by
  intro w hw
  simp only [Vd, List.mem_map] at hw
  obtain ⟨w', hw', rfl⟩ := hw
  have := (VI hv m hp hw').1.many
  simp only [NZ]; omega)
 have h2 := M7 hv m hp.1
 simp only [Vd, List.length_map] at h1
 omega
end
end
end Go.Lf
