/- A part of the proof. -/
import Derived.Test.YtbkliocalcihjaaDoorx8
set_option linter.all false
namespace Go.Lf
open Go
def pw (k : Option Nat) (us : Nat → Value) : Value := match k with
 | none => us 0
 | some n => .agg ((List.range n).map us).toArray
theorem CU {P : Program} {t : TypeId} {k : Option Nat} (h : DC P t = some k) :
  ∃ d i, P.underlying t = some d ∧ P.info? t = some i ∧ i.size = Bl k ∧ bi d = k.isSome := by
 unfold DC at h
 cases hu : P.underlying t with
 | none => simp [hu] at h
 | some d =>
  cases hi : P.info? t with
  | none => cases d <;> simp [hu, hi] at h
  | some i =>
   cases d <;> simp only [hu, hi] at h <;> first
    | (simp only [Option.some.injEq] at h; subst h; exact ⟨_, i, rfl, rfl, rfl, rfl⟩)
    | (split at h <;> first | (simp only [Option.some.injEq] at h; subst h; exact ⟨_, i, rfl, rfl, by assumption, rfl⟩) | simp at h)
theorem HV (b o i : Nat) : (⟨b, o, none⟩ : Addr).add i = ⟨b, o + i, none⟩ := by
 unfold Addr.add
 split
 ·subst_vars; rfl
 ·rfl
section
variable {P : Program} {w : World}
theorem Pl {a : Addr} {v : Value} (h : w.cell? a = some v) : (load a).run P w = .ok v w := by simp [h]
theorem J4 {b o : Nat} {us : Nat → Value} : ∀ (n i : Nat) (acc : Array Value), (∀ j, i ≤ j → j < i + n → w.cell? ⟨b, o + j, none⟩ = some (us j)) →
  (loadCellsFrom ⟨b, o, none⟩ i n acc).run P w = .ok (acc ++ ((List.range' i n).map us).toArray) w
 | 0, i, acc, _ => by simp [loadCellsFrom]
 | n + 1, i, acc, h => by
  have h1 := h i (Nat.le_refl _) (by omega)
  simp only [loadCellsFrom, Sem.run_bind, HV, Pl h1, Result.andThen_ok]
  rw [J4 n (i + 1) _ fun j h1 h2 => h j (by omega) (by omega)]
  congr 1
  apply Array.ext'
  simp [List.range'_succ]
theorem Zj {b o n : Nat} {us : Nat → Value} (h : ∀ j, j < n → w.cell? ⟨b, o + j, none⟩ = some (us j)) :
  (loadCells ⟨b, o, none⟩ n).run P w = .ok ((List.range n).map us).toArray w := by
 unfold loadCells
 rw [J4 n 0 #[] fun j _ h2 => h j (by omega)]
 simp [List.range_eq_range']
theorem OY {t : TypeId} {k : Option Nat} (hk : DC P t = some k) {b o : Nat} {us : Nat → Value}
  (h : ∀ j, j < Bl k → w.cell? ⟨b, o + j, none⟩ = some (us j)) : (loadVar t ⟨b, o, none⟩).run P w = .ok (pw k us) w := by
 obtain ⟨d, i, hu, hi, hs, ha⟩ := CU hk
 unfold loadVar
 simp only [Sem.run_bind, ML hu, ha, Result.andThen_ok]
 cases k with
 | none =>
  have := Pl (P := P) (h 0 (by simp [Bl]))
  simp only [Option.isSome_none, Bool.false_eq_true, if_false]
  exact this
 | some n =>
  simp only [Option.isSome_some, if_true, Sem.run_bind, CO hi, hs, Bl, Option.getD_some, Result.andThen_ok]
  rw [Zj (us := us) (fun j hj => h j (by simpa [Bl] using hj))]
  rfl
def KR (cs : Array Value) : Nat → List Value → Array Value
 | _, [] => cs
 | o, v :: r => KR (cs.setIfInBounds o v) (o + 1) r
theorem J6 : ∀ (vs : List Value) (cs : Array Value) (o : Nat), (KR cs o vs).size = cs.size
 | [], _, _ => rfl
 | v :: r, cs, o => by rw [KR, J6]; simp
theorem NL : ∀ (vs : List Value) (cs : Array Value) (o i : Nat), o + vs.length ≤ cs.size →
  (KR cs o vs).getD i Go.undef = if o ≤ i ∧ i < o + vs.length then vs.getD (i - o) Go.undef else cs.getD i Go.undef
 | [], cs, o, i, _ => by
  have : ¬ (o ≤ i ∧ i < o + 0) := by omega
  simp only [KR, List.length_nil, this, if_false]
 | v :: r, cs, o, i, h => by
  simp only [List.length_cons] at h
  rw [KR, NL r _ (o + 1) i (by simp; omega)]
  by_cases h1 : o + 1 ≤ i ∧ i < o + 1 + r.length
  ·rw [if_pos h1, if_pos (by simp only [List.length_cons]; omega)]
   obtain ⟨m, hm⟩ : ∃ m, i - o = m + 1 := ⟨i - o - 1, by omega⟩
   rw [hm, List.getD_cons_succ]
   congr 1; omega
  ·rw [if_neg h1]
   by_cases h2 : i = o
   ·subst h2
    rw [LE _ _ _ (by omega), if_pos (by simp)]
    simp
   ·rw [K8 _ _ _ _ h2, if_neg (by simp only [List.length_cons]; omega)]
def AE (w : World) (b : Nat) (o : Obj) : World := { w with heap := w.heap.setIfInBounds b o }
theorem Az (w : World) (b c : Nat) (o : Obj) (h : b < w.heap.size) : (AE w b o).heap[c]? = if c = b then some o else w.heap[c]? := by
 simp only [AE, Array.getElem?_setIfInBounds]
 by_cases hc : c = b
 ·subst hc; simp [h]
 ·rw [if_neg (fun h => hc h.symm), if_neg hc]
theorem EG {b o : Nat} {cs : Array Value} {e : TypeId} {fz : Nat × Nat} (h : w.heap[b]? = some (.cells cs e fz)) (v : Value) :
  w.setCell ⟨b, o, none⟩ v = AE w b (.cells (cs.setIfInBounds o v) e fz) := by
 have hb : b < w.heap.size := (Array.getElem?_eq_some_iff.1 h).1
 have hv : w.heap[b] = .cells cs e fz := (Array.getElem?_eq_some_iff.1 h).2
 unfold World.setCell AE
 congr 1
 apply Array.ext
 ·simp
 ·intro i h1 h2
  simp only [Array.getElem_modify, Array.getElem_setIfInBounds (by simpa using h2)]
  by_cases hi : b = i
  ·subst hi; simp [hv]
  ·simp [hi]
theorem Nw {b : Nat} {e : TypeId} (o : Nat) : ∀ (vs : List Value) (i : Nat) (cs : Array Value) (w : World), w.heap[b]? = some (.cells cs e (0, 0)) → o + i + vs.length ≤ cs.size →
  (∀ v, v ∈ vs → v.oneCell' = true) → (storeCells ⟨b, o, none⟩ vs i).run P w = .ok () (if vs = [] then w else AE w b (.cells (KR cs (o + i) vs) e (0, 0)))
 | [], i, cs, w, _, _, _ => by simp [storeCells]
 | v :: r, i, cs, w, h, hl, hv => by
  simp only [List.length_cons] at hl
  have hb : b < w.heap.size := (Array.getElem?_eq_some_iff.1 h).1
  have hc : w.cell? ⟨b, o + i, none⟩ = some (cs[o + i]'(by omega)) := by
   simp only [World.cell?, h]
   simp [Array.getElem?_eq_getElem (show o + i < cs.size by omega)]
  have hf : w.frozen? ⟨b, o + i, none⟩ = false := by simp [World.frozen?, h]
  have hs := run_store P w ⟨b, o + i, none⟩ v .plain (hv v (by simp))
  rw [hc] at hs
  simp only [hf, Bool.false_eq_true, if_false] at hs
  rw [EG h] at hs
  have h' : (AE w b (.cells (cs.setIfInBounds (o + i) v) e (0, 0))).heap[b]? = some (.cells (cs.setIfInBounds (o + i) v) e (0, 0)) := by
   rw [Az _ _ _ _ hb, if_pos rfl]
  have ih := Nw o r (i + 1) _ _ h' (by simp; omega) fun v hv' => hv v (by simp [hv'])
  simp only [storeCells, Sem.run_bind, HV, hs, Result.andThen_ok, ih]
  congr 1
  split
  ·rename_i hr; subst hr; simp [KR]
  ·simp only [reduceCtorEq, if_false, KR]
   unfold AE
   congr 1
   simp [Nat.add_assoc]
theorem eM {t : TypeId} {i : TypeInfo} (hi : P.info? t = some i) {b o : Nat} {cs : Array Value} {e : TypeId} {v : Value} (h : w.heap[b]? = some (.cells cs e (0, 0)))
  (hn : v.cells.size = i.size) (hl : o + i.size ≤ cs.size) (hv : ∀ u, u ∈ v.cells.toList → u.oneCell' = true) :
  (storeVar t ⟨b, o, none⟩ v).run P w = .ok () (if v.cells.toList = [] then w else AE w b (.cells (KR cs o v.cells.toList) e (0, 0))) := by
 unfold storeVar
 simp only [Sem.run_bind, CO hi, Result.andThen_ok]
 rw [if_neg (by simp [hn])]
 exact Nw o _ 0 cs w h (by simpa [hn] using hl) hv
end
end Go.Lf
namespace Go.Lf
open Go
section
variable {g : Gh}
theorem IW : ∀ {cs : List LV} {ds : List DV}, AW cs = some ds → ds.length = cs.length ∧ ∀ (i : Nat) (c : LV), cs[i]? = some c → ∃ d, c.toD = some d ∧ ds[i]? = some d
 | [], ds, h => by
  simp only [AW, Option.some.injEq] at h
  subst h
  exact ⟨rfl, fun i c hc => by simp at hc⟩
 | x :: r, ds, h => by
  simp only [AW] at h
  split at h
  ·rename_i y ys hy hys
   simp only [Option.some.injEq] at h
   subst h
   have := IW hys
   refine ⟨by simp [this.1], fun i c hc => ?_⟩
   cases i with
   | zero =>
    simp only [List.getElem?_cons_zero, Option.some.injEq] at hc
    subst hc
    exact ⟨y, hy, rfl⟩
   | succ i =>
    simp only [List.getElem?_cons_succ] at hc ⊢
    exact this.2 i c hc
  ·simp at h
theorem Hw {cs : List LV} {ds : List DV} (h : AW cs = some ds) {i : Nat} {d : DV} (hd : ds[i]? = some d) : ∃ c, cs[i]? = some c ∧ c.toD = some d := by
 obtain ⟨hl, hg⟩ := IW h
 have hi : i < cs.length := by rw [← hl]; exact (List.getElem?_eq_some_iff.1 hd).1
 obtain ⟨d', h1, h2⟩ := hg i cs[i] (List.getElem?_eq_getElem hi)
 rw [hd] at h2
 simp only [Option.some.injEq] at h2
 subst h2
 exact ⟨_, List.getElem?_eq_getElem hi, h1⟩
theorem Bm.toD {v : Value} {x : LV} (h : Bm g v x) : ∀ {d : DV}, x.toD = some d → Cd g.im g.fm v d := by
 induction h with
 | d h => intro d hd; simp only [LV.toD, Option.some.injEq] at hd; subst hd; exact h
 | hot h => intro d hd; simp only [LV.toD, Option.some.injEq] at hd; subst hd; exact h
 | full h => intro d hd; simp only [LV.toD, Option.some.injEq] at hd; subst hd; exact h
 | ptr h => intro d hd; simp [LV.toD] at hd
 | mref h => intro d hd; simp [LV.toD] at hd
 | yield h => intro d hd; simp [LV.toD] at hd
 | agg vs cs hn hh hr ih =>
  intro d hd
  simp only [LV.toD, Option.map_eq_some_iff] at hd
  obtain ⟨ds, hds, rfl⟩ := hd
  refine .agg vs ds (by rw [hn, (IW hds).1]) fun i c hc => ?_
  obtain ⟨y, hy, hyd⟩ := Hw hds hc
  exact ih i y hy hyd
 | tup vs cs hn hr ih =>
  intro d hd
  simp only [LV.toD, Option.map_eq_some_iff] at hd
  obtain ⟨ds, hds, rfl⟩ := hd
  refine .tup vs ds (by rw [hn, (IW hds).1]) fun i c hc => ?_
  obtain ⟨y, hy, hyd⟩ := Hw hds hc
  exact ih i y hy hyd
 | fn f va vb a b hna hnb hha hhb ha hb iha ihb =>
  intro d hd
  simp only [LV.toD] at hd
  split at hd
  ·rename_i a' b' ha' hb'
   simp only [Option.some.injEq] at hd
   subst hd
   refine .fn f va vb a' b' (by rw [hna, (IW ha').1]) (by rw [hnb, (IW hb').1]) (fun i c hc => ?_) (fun i c hc => ?_)
   ·obtain ⟨y, hy, hyd⟩ := Hw ha' hc
    exact iha i y hy hyd
   ·obtain ⟨y, hy, hyd⟩ := Hw hb' hc
    exact ihb i y hy hyd
  ·simp at hd
 | fptr b o off cs us hh hi hr ih =>
  intro d hd
  simp only [LV.toD, Option.map_eq_some_iff] at hd
  obtain ⟨ds, hds, rfl⟩ := hd
  refine .fptr b o off ds us (fun i h => hi i (by rw [← (IW hds).1]; exact h)) fun i c hc => ?_
  obtain ⟨y, hy, hyd⟩ := Hw hds hc
  exact ih i y hy hyd
theorem Bm.norm {v : Value} {x : LV} (h : Bm g v x) : Bm g v x.norm := by
 unfold LV.norm
 split
 ·exact .d (h.toD (by assumption))
 ·exact h
theorem C3 {x : LV} (h : x.cold = true) : x.norm.cold = true := by
 unfold LV.norm
 split
 ·rfl
 ·exact h
theorem xq (us : Nat → Value) : pw none us = us 0 := rfl
theorem eG {im fm} {k : Option Nat} {off : Nat} {cs : List DV} {x : DV} {us : Nat → Value} (hr : ∀ i c, cs[i]? = some c → Cd im fm (us i) c)
  (h : Ak k off cs = some x) : Cd im fm (pw k fun i => us (off + i)) x ∧ ∀ j, j < Bl k → off + j < cs.length := by
 cases k with
 | none =>
  simp only [Ak] at h
  refine ⟨hr off x h, fun j hj => ?_⟩
  have := (List.getElem?_eq_some_iff.1 h).1
  simp [Bl] at hj; omega
 | some n =>
  simp only [Ak] at h
  split at h
  ·rename_i hl
   simp only [Option.some.injEq] at h
   subst h
   refine ⟨.agg _ _ (by simp only [List.length_take, List.length_drop] at hl ⊢; simp; omega) fun i c hc => ?_, ?_⟩
   ·have hi : i < n := by have := (List.getElem?_eq_some_iff.1 hc).1; omega
    have hc' : cs[off + i]? = some c := by
     rw [List.getElem?_take, if_pos hi, List.getElem?_drop] at hc
     exact hc
    have := hr (off + i) c hc'
    simpa [pw, Array.getD, hi] using this
   ·intro j hj
    simp only [List.length_take, List.length_drop] at hl
    simp [Bl] at hj; omega
  ·simp at h
theorem TU {k : Option Nat} {off : Nat} {cs : List LV} {x : LV} {us : Nat → Value} (hr : ∀ i c, cs[i]? = some c → Bm g (us i) c)
  (h : part k off cs = some x) : Bm g (pw k fun i => us (off + i)) x ∧ x.cold = true ∧ ∀ j, j < Bl k → off + j < cs.length := by
 cases k with
 | none =>
  simp only [part, Option.map_eq_some_iff] at h
  obtain ⟨y, hy, rfl⟩ := h
  refine ⟨(hr off y hy).copy, Ht _, fun j hj => ?_⟩
  have := (List.getElem?_eq_some_iff.1 hy).1
  simp [Bl] at hj; omega
 | some n =>
  simp only [part] at h
  split at h
  ·rename_i hl
   simp only [Option.some.injEq] at h
   subst h
   refine ⟨Bm.norm (.agg _ _ (by simp only [List.length_map, List.length_take, List.length_drop] at hl ⊢; simp; omega) (fun c hc => ?_) fun i c hc => ?_), C3 rfl, ?_⟩
   ·simp only [List.mem_map] at hc
    obtain ⟨y, _, rfl⟩ := hc
    exact gk y
   ·have hi : i < n := by
     have := (List.getElem?_eq_some_iff.1 hc).1
     simp only [List.length_map] at this; omega
    simp only [List.getElem?_map, Option.map_eq_some_iff] at hc
    obtain ⟨y, hy, rfl⟩ := hc
    rw [List.getElem?_take, if_pos hi, List.getElem?_drop] at hy
    have := (hr (off + i) y hy).copy
    simpa [pw, Array.getD, hi] using this
   ·intro j hj
    simp only [List.length_take, List.length_drop] at hl
    simp [Bl] at hj; omega
  ·simp at h
theorem Bm.fptrD {v : Value} {cs : List DV} {off : Nat} (h : Bm g v (.d (.fptr cs off))) : ∃ (b o : Nat) (us : Nat → Value), v = .pointer (some ⟨b, o + off, none⟩) ∧
  (∀ i, i < cs.length → g.im b (o + i) = some (us i)) ∧ ∀ i c, cs[i]? = some c → Cd g.im g.fm (us i) c := by
 cases h with
 | d h => cases h with
  | fptr b o _ _ us hi hr => exact ⟨b, o, us, rfl, hi, hr⟩
theorem Bm.fptrL {v : Value} {cs : List LV} {off : Nat} (h : Bm g v (.fptr cs off)) : ∃ (b o : Nat) (us : Nat → Value), v = .pointer (some ⟨b, o + off, none⟩) ∧ (∀ c, c ∈ cs → c.isHot = false) ∧
  (∀ i, i < cs.length → g.im b (o + i) = some (us i)) ∧ ∀ i c, cs[i]? = some c → Bm g (us i) c := by
 cases h with
 | fptr b o _ _ us hh hi hr => exact ⟨b, o, us, rfl, hh, hi, hr⟩
theorem Bm.ptr' {v : Value} {j t gn off : Nat} (h : Bm g v (.ptr j t gn off)) : ∃ b, v = .pointer (some ⟨b, off, none⟩) ∧ g.gb gn = some b := by
 cases h with
 | ptr h => exact ⟨_, rfl, h⟩
theorem Bm.mref' {v : Value} {j t gn : Nat} (h : Bm g v (.mref j t gn)) : ∃ b, v = .map (some b) ∧ g.gb gn = some b := by
 cases h with
 | mref h => exact ⟨_, rfl, h⟩
end
section
variable {T : Tables} {g : Gh} {w : World} {tss : List (Array Value)} {s s' : St} {ts : Array Value} {dst : Option Nat} {gi : Nat} {df : List Deferred} {C : AM}
def qO (tss : List (Array Value)) (k : Nat) (ts : Array Value) (j : Nat) : Array Value := if j = k then ts else tss.getD j #[]
theorem AV.at (h : AV T g w tss s ts) {j t : Nat} {sl : A6} (hs : s.at j t = some sl) :
  EA g w j t ((qO tss s.low.length ts j).getD t Go.undef) sl := by
 unfold St.at at hs
 unfold qO
 split at hs
 ·rename_i hj
  subst hj
  rw [if_pos rfl]
  exact h.env t sl hs
 ·rename_i hj
  rw [if_neg hj]
  split at hs
  ·rename_i fr hfr
   have hl : j < tss.length := by rw [h.stack.len]; exact (List.getElem?_eq_some_iff.1 hfr).1
   have := (h.stack.fr j tss[j] fr (List.getElem?_eq_getElem hl) hfr).env t sl hs
   simpa [List.getD, List.getElem?_eq_getElem hl] using this
  ·simp at hs
theorem AV.cells (h : AV T g w tss s ts) {j t gn : Nat} {cs : List LV} (hs : s.cells j t gn = some cs) :
  s.at j t = some (.box gn cs) ∧ ∃ b vs e, (qO tss s.low.length ts j).getD t Go.undef = .pointer (some ⟨b, 0, none⟩) ∧ g.gb gn = some b ∧ g.ow b = some (.slot j t 0) ∧
   w.heap[b]? = some (.cells vs e (0, 0)) ∧ (∀ i, g.im b i = none) ∧ vs.size = cs.length ∧ (∀ c, c ∈ cs → c.cellOk = true) ∧
   ∀ i c, cs[i]? = some c → Bm g (vs.getD i Go.undef) c ∧ zu g w (.slot j t (i + 1)) (vs.getD i Go.undef) c := by
 unfold St.cells at hs
 split at hs
 ·rename_i g' cs' hat
  split at hs
  ·rename_i hg
   subst hg
   simp only [Option.some.injEq] at hs
   subst hs
   refine ⟨hat, ?_⟩
   have := h.at hat
   generalize hv : (qO tss s.low.length ts j).getD t Go.undef = v at this
   cases this with
   | box hg ho hh hi hn hk hr => exact ⟨_, _, _, rfl, hg, ho, hh, hi, hn, hk, hr⟩
  ·simp at hs
 ·simp at hs
theorem AV.entries (h : AV T g w tss s ts) {j t gn n : Nat} {es : List (List Int × LV)} (hs : s.entries j t gn n = some es) :
  s.at j t = some (.mapo gn n es) ∧ ∃ b es', (qO tss s.low.length ts j).getD t Go.undef = .map (some b) ∧ g.gb gn = some b ∧ g.ow b = some (.slot j t 0) ∧
   w.heap[b]? = some (.map es' es'.size) ∧ g.fm b = none ∧ es'.size = es.length ∧ (∀ i, i < es'.size → (es'.getD i default).born = i) ∧
   (∀ i p, es[i]? = some p → Ww n p.1 (es'.getD i default).key) ∧
   ∀ i p, es[i]? = some p → Bm g (es'.getD i default).val p.2 ∧ zu g w (.slot j t (i + 1)) (es'.getD i default).val p.2 := by
 unfold St.entries at hs
 split at hs
 ·rename_i g' n' cs' hat
  split at hs
  ·rename_i hg
   obtain ⟨rfl, rfl⟩ := hg
   simp only [Option.some.injEq] at hs
   subst hs
   refine ⟨hat, ?_⟩
   have := h.at hat
   generalize hv : (qO tss s.low.length ts j).getD t Go.undef = v at this
   cases this with
   | mapo hg ho hh hf hn hb hk hr => exact ⟨_, _, rfl, hg, ho, hh, hf, hn, hb, hk, hr⟩
  ·simp at hs
 ·simp at hs
theorem DY {b : Nat} {vs : Array Value} {e : TypeId} {fz : Nat × Nat} (hh : w.heap[b]? = some (.cells vs e fz)) {i : Nat} (hi : i < vs.size) :
  w.cell? ⟨b, i, none⟩ = some (vs.getD i Go.undef) := by
 simp only [World.cell?, hh]
 simp [Array.getD, hi]
theorem jU {t : TypeId} {po : Operand} {p : Opd} {k : Option Nat} {o : Oper} (h : AV T g w tss s ts) (hd : ∀ d, dst = some d → d < ts.size)
  (hk : DC T.P t = some k) (hp : As po = some p) (ho : o.op = .load t po) (he : evalOp T.LP C gi dst (.load k p false) s = some s') :
  Bd T g w tss s s' ts dst gi ((execOp (⟨ts, df⟩ : Act).eval o).run T.P w) := by
 have hP := h.val (df := df) hp
 have key : ∀ (b o' : Nat) (us : Nat → Value), (⟨ts, df⟩ : Act).eval po = .pointer (some ⟨b, o', none⟩) → (∀ j, j < Bl k → w.cell? ⟨b, o' + j, none⟩ = some (us j)) →
   (execOp (⟨ts, df⟩ : Act).eval o).run T.P w = .ok (.value (pw k us)) w := by
  intro b o' us hv hc
  simp [execOp, ho, Instr.loadAt, hv, Instr.sureAddr, OY hk hc]
 simp only [evalOp] at he
 split at he
 ·rename_i cs off hval
  rw [hval] at hP
  obtain ⟨b, o', us, hv, hi, hr⟩ := hP.fptrD
  split at he
  ·rename_i x hx
   obtain ⟨h1, h2⟩ := eG hr hx
   exact A8 h hd (key b (o' + off) (fun i => us (off + i)) hv fun j hj => by rw [Nat.add_assoc]; exact h.winv.im _ _ _ (hi _ (h2 j hj))) he (.d h1) rfl
  ·simp at he
 ·rename_i cs off hval
  rw [hval] at hP
  obtain ⟨b, o', us, hv, hh, hi, hr⟩ := hP.fptrL
  split at he
  ·rename_i x hx
   obtain ⟨h1, h3, h2⟩ := TU hr hx
   exact A8 h hd (key b (o' + off) (fun i => us (off + i)) hv fun j hj => by rw [Nat.add_assoc]; exact h.winv.im _ _ _ (hi _ (h2 j hj))) he h1 h3
  ·simp at he
 ·rename_i j t' g' off hval
  rw [hval] at hP
  obtain ⟨b, hv, hgb⟩ := hP.ptr'
  split at he
  ·rename_i cs hcs
   obtain ⟨_, b', vs, e, _, hgb', how, hheap, him, hn, hok, hr⟩ := h.cells hcs
   rw [hgb] at hgb'
   simp only [Option.some.injEq] at hgb'
   subst hgb'
   split at he
   ·rename_i x hx
    obtain ⟨h1, h3, h2⟩ := TU (us := fun i => vs.getD i Go.undef) (fun i c hc => (hr i c hc).1) hx
    exact A8 h hd (key b off (fun i => vs.getD (off + i) Go.undef) hv fun j hj => DY hheap (by have := h2 j hj; omega)) he h1 h3
   ·simp at he
  ·simp at he
 ·simp at he
end
end Go.Lf
