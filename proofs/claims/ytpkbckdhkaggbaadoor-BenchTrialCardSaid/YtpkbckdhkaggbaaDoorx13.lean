/- A part of the proof. -/
import Derived.Test.YtpkbckdhkaggbaaDoorx12
set_option linter.all false
namespace Go.Lf
open Go
theorem Iy (cs : List LV) (off : Nat) (xs : List LV) (h : off + xs.length ≤ cs.length) (i : Nat) :
  (setCells cs off xs)[i]? = if off ≤ i ∧ i < off + xs.length then xs[i - off]? else cs[i]? := by
 unfold setCells
 have hl : (cs.take off).length = off := by simp; omega
 by_cases h1 : i < off
 ·rw [if_neg (by omega), List.append_assoc, List.getElem?_append_left (by omega), List.getElem?_take, if_pos h1]
 ·by_cases h2 : i < off + xs.length
  ·rw [if_pos (by omega), List.getElem?_append_left (by simp; omega), List.getElem?_append_right (by omega), hl]
  ·rw [if_neg (by omega), List.getElem?_append_right (by simp; omega), List.getElem?_drop]
   congr 1
   simp; omega
theorem IE (cs : List LV) (off : Nat) (xs : List LV) (h : off + xs.length ≤ cs.length) : (setCells cs off xs).length = cs.length := by
 simp [setCells]; omega
theorem Ql {g : Gh} {u : Value} {c : LV} (hr : Bj g u c) (hc : c.cellOk = true) : u.oneCell' = true := by
 cases hr with
 | d h => cases h <;> first | rfl | simp [LV.cellOk] at hc
 | hot h => cases h <;> rfl
 | full h => rfl
 | ptr h => rfl
 | mref h => rfl
 | agg => simp [LV.cellOk] at hc
 | tup => simp [LV.cellOk] at hc
 | fn => rfl
 | fptr => rfl
 | yield => rfl
section
variable {T : Tables} {g : Gh} {w : World} {tss : List (Array Value)} {s s' : St} {ts : Array Value} {dst : Option Nat} {gi : Nat} {df : List Deferred} {C : AP}
structure Rk (w w' : World) (b : Nat) (vs : Array Value) (e : TypeId) : Prop where
 here : w'.heap[b]? = some (.cells vs e (0, 0))
 there : ∀ c, c ≠ b → w'.heap[c]? = w.heap[c]?
 size : w'.heap.size = w.heap.size
 os : w'.os = w.os
 tape : w'.tape = w.tape
 output : w'.output = w.output
theorem j3 {b : Nat} {vs : Array Value} {e : TypeId} (h : w.heap[b]? = some (.cells vs e (0, 0))) (o : Nat) (xs : List Value) :
  Rk w (if xs = [] then w else AD w b (.cells (Kw vs o xs) e (0, 0))) b (Kw vs o xs) e := by
 have hb : b < w.heap.size := (Array.getElem?_eq_some_iff.1 h).1
 split
 ·rename_i hx; subst hx; exact ⟨h, fun _ _ => rfl, rfl, rfl, rfl, rfl⟩
 ·exact ⟨by rw [Au _ _ _ _ hb, if_pos rfl], fun c hc => by rw [Au _ _ _ _ hb, if_neg hc], by simp [AD], rfl, rfl, rfl⟩
theorem IU.stored {c : Nat} (h : IU T g w c) {w' : World} {b : Nat} {vs vs' : Array Value} {e : TypeId} (hh : w.heap[b]? = some (.cells vs' e (0, 0)))
  (hi : ∀ i, g.im b i = none) (hs : Rk w w' b vs e) : IU T g w' c where
 im b' i u hu := by
  have : b' ≠ b := fun e => by subst e; rw [hi] at hu; simp at hu
  rw [EQ (hs.there _ this)]
  exact h.im _ _ _ hu
 one := h.one
 fm b' es hf := by
  obtain ⟨c, hc⟩ := h.fm _ _ hf
  have : b' ≠ b := fun e => by subst e; rw [hh] at hc; simp at hc
  exact ⟨c, by rw [hs.there _ this]; exact hc⟩
 ow b' p hp := by rw [hs.size]; exact h.ow _ _ hp
 gb n b' hn := by rw [hs.size]; exact h.gb _ _ hn
 lp b' d hb := by
  obtain ⟨r, hr, hd⟩ := h.lp b' d hb
  have : b' ≠ b := fun e => by subst e; rw [hh] at hr; simp at hr
  exact ⟨r, by rw [hs.there _ this]; exact hr, hd⟩
 ctr := h.ctr
 globs := h.globs
theorem Rk.unch {w' : World} {b : Nat} {vs : Array Value} {e : TypeId} (hs : Rk w w' b vs e) {c : Nat} (hc : c ≠ b) : NG g w g w' c :=
 ⟨hs.there c hc, fun _ => rfl, rfl, rfl⟩
theorem Rk.kept {w' : World} {b : Nat} {vs vs0 : Array Value} {e : TypeId} (hs : Rk w w' b vs e) (hh : w.heap[b]? = some (.cells vs0 e (0, 0))) {p : DX} (ho : g.ow b = some p) : N5 g w g w' :=
 ⟨.refl g, fun c _ hc => hs.unch fun e => by subst e; rw [ho] at hc; simp at hc, by rw [hs.size]; exact Nat.le_refl _, hs.os, hs.tape, hs.output, fun c => by
  unfold QL
  by_cases hc : c = b
  ·subst hc; rw [hs.here, hh]; rfl
  ·rw [hs.there c hc]⟩
theorem AS.storeBox (h : AS T g w tss s ts) {j t gn off : Nat} {cs xs : List LV} (hc : s.cells j t gn = some cs) {ws : List Value}
  (hl : ws.length = xs.length) (hoff : off + xs.length ≤ cs.length) (hok : ∀ c, c ∈ xs → c.cellOk = true) (hr : ∀ i c, xs[i]? = some c → Bj g (ws.getD i Go.undef) c)
  (ho : ∀ i c, xs[i]? = some c → uM g w (.slot j t (off + i + 1)) (ws.getD i Go.undef) c) :
  ∃ b vs e, g.gb gn = some b ∧ g.ow b = some (.slot j t 0) ∧ w.heap[b]? = some (.cells vs e (0, 0)) ∧ vs.size = cs.length ∧
   ∀ w', Rk w w' b (Kw vs off ws) e → N5 g w g w' ∧ AS T g w' tss (s.setAt j t (.box gn (setCells cs off xs))) ts := by
 obtain ⟨hat, b, vs, e, hval, hgb, how, hheap, him, hn, hcok, hrep⟩ := h.cells hc
 refine ⟨b, vs, e, hgb, how, hheap, hn, fun w' hs => ⟨hs.kept hheap how, h.setAt hat (h.winv.stored hheap him hs) (.refl g) (fun c p hcp hp => hs.unch fun e => ?_) ?_⟩⟩
 ·subst e; rw [how] at hcp; simp only [Option.some.injEq] at hcp; exact hp 0 hcp.symm
 ·rw [hval]
  refine .box hgb how hs.here him (by rw [JM, IE _ _ _ hoff, hn]) (fun c hcm => ?_) fun i c hci => ?_
  ·obtain ⟨i, hi, hic⟩ := List.getElem_of_mem hcm
   have hic' : (setCells cs off xs)[i]? = some c := by rw [List.getElem?_eq_getElem hi, hic]
   rw [Iy _ _ _ hoff] at hic'
   split at hic'
   ·exact hok c (List.mem_of_getElem? hic')
   ·exact hcok c (List.mem_of_getElem? hic')
  ·rw [MV _ _ _ _ (by omega)]
   rw [Iy _ _ _ hoff] at hci
   have keep : ∀ q v x, uM g w (.slot j t (q + 1)) v x → uM g w' (.slot j t (q + 1)) v x := fun q v x hx => hx.keep fun b' hb' => hs.unch fun e => by
    subst e; rw [how] at hb'; simp only [Option.some.injEq, DX.slot.injEq] at hb'; omega
   by_cases hin : off ≤ i ∧ i < off + xs.length
   ·rw [if_pos hin] at hci
    rw [if_pos (by omega)]
    have := ho (i - off) c hci
    rw [show off + (i - off) + 1 = i + 1 by omega] at this
    exact ⟨hr _ c hci, keep _ _ _ this⟩
   ·rw [if_neg hin] at hci
    rw [if_neg (by omega)]
    exact ⟨(hrep i c hci).1, keep _ _ _ (hrep i c hci).2⟩
theorem OA (vs : Array Value) (i : Nat) : vs.toList.getD i Go.undef = vs.getD i Go.undef := by
 simp [List.getD, Array.getD_eq_getD_getElem?]
theorem iz {z : Nat} {xs : List DV} : (LV.hot z xs).known = some [.hot z xs] := rfl
theorem j5 {t : TypeId} {k : Option Nat} {po xo : Operand} {p x : vD} {o : Oper} (h : AS T g w tss s ts) (hd : dst = none)
  (hk : C6 T.P t = some k) (hp : Aq po = some p) (hx : Aq xo = some x) (ho : o.op = .store t po xo) (he : evalOp T.LP C gi dst (.store (Bf k) p x) s = some s') :
  BS T g w tss s s' ts dst gi ((execOp (⟨ts, df⟩ : Act).eval o).run T.P w) := by
 subst hd
 simp only [evalOp] at he
 have hP := h.val (df := df) hp
 split at he
 ·rename_i j t' g' off hval
  rw [hval] at hP
  obtain ⟨b, hv, hgb⟩ := hP.ptr'
  obtain ⟨g1, h1, h2, h3, h4, h5, h6, h7, h8, h9, h10⟩ := h.takeTo (df := df) hx (.slot j t' (off + 1))
  split at he
  ·rename_i cs xs hcs hxs
   split at he
   ·rename_i hc
    simp only [Option.some.injEq] at he
    subst he
    obtain ⟨hn, hoff, hok⟩ := hc
    simp only [List.all_eq_true] at hok
    obtain ⟨hsz, hrep⟩ := h1.known hxs
    obtain ⟨_, i, _, hi, hsi, _⟩ := Cb hk
    obtain ⟨b', vs, e, hgb', how, hheap, hvs, hst⟩ := h2.storeBox (off := off) hcs (ws := ((⟨ts, df⟩ : Act).eval xo).cells.toList) (xs := xs) (by simpa using hsz) (by omega) hok
     (fun i c hc => by rw [OA]; exact hrep i c hc) (fun i c hc => by
      rcases h10 with hcold | ⟨z, ys, hz⟩
      ·exact uM.of_cold (Uc hxs (Dm hcold) ⟨_, h1⟩ c (List.mem_of_getElem? hc))
      ·rw [hz] at hxs h9
       rw [iz] at hxs
       simp only [Option.some.injEq] at hxs
       subst hxs
       cases i with
       | zero =>
        simp only [List.getElem?_cons_zero, Option.some.injEq] at hc
        subst hc
        have hcell : ((⟨ts, df⟩ : Act).eval xo).cells = #[(⟨ts, df⟩ : Act).eval xo] := by
         obtain ⟨_, _, _, hv', _⟩ := h9
         rw [hv']; rfl
        rw [hcell]
        exact h9
       | succ i => simp at hc)
    rw [h6, hgb] at hgb'
    simp only [Option.some.injEq] at hgb'
    subst hgb'
    have hrun := ch (P := T.P) (t := t) hi (b := b) (o := off) (v := (⟨ts, df⟩ : Act).eval xo) hheap (by rw [hsi]; omega) (by omega) (fun u hu => by
     obtain ⟨n, hn', hun⟩ := List.getElem_of_mem hu
     have hlt : n < xs.length := by rw [← hsz]; simpa using hn'
     have := Ql (hrep n xs[n] (List.getElem?_eq_getElem hlt)) (hok _ (List.getElem_mem hlt))
     have he' : ((⟨ts, df⟩ : Act).eval xo).cells.getD n Go.undef = u := by rw [← OA]; simp [List.getD, List.getElem?_eq_getElem hn', hun]
     rw [he'] at this; exact this)
    have hS := j3 hheap off ((⟨ts, df⟩ : Act).eval xo).cells.toList
    obtain ⟨k1, k2⟩ := hst _ hS
    refine ⟨g1, _, Go.undef, .inr ⟨?_, rfl⟩, h5.trans k1, k2, fun n _ _ => by rw [h6]⟩
    simp only [execOp, ho]
    simp only [Instr.storeAt, hv, Instr.sureAddr, Sem.run_bind, Sem.run_pure, Result.andThen_ok, hrun]
   ·simp at he
  ·simp at he
 ·simp at he
theorem J5 {α : Type} (cs : List α) (off i : Nat) (x : α) : (cs.set off x)[i]? = if off = i ∧ i < cs.length then some x else if off = i then none else cs[i]? := by
 rw [List.getElem?_set]
 by_cases h : off = i
 ·subst h
  by_cases h2 : off < cs.length <;> simp [h2]
 ·simp [h]
theorem AS.coolBox (h : AS T g w tss s ts) {j t gn off : Nat} {cs : List LV} (hc : s.cells j t gn = some cs) {z : Nat} {xs : List DV} (hcell : cs[off]? = some (.hot z xs)) (p : DX) :
  ∃ b vs e g', g.gb gn = some b ∧ w.heap[b]? = some (.cells vs e (0, 0)) ∧ vs.size = cs.length ∧ N5 g w g' w ∧ g'.gb = g.gb ∧
   AS T g' w tss (s.setAt j t (.box gn (cs.set off (.d (.slice z xs))))) ts ∧ Bj g' (vs.getD off Go.undef) (.hot z xs) ∧ uM g' w p (vs.getD off Go.undef) (.hot z xs) := by
 obtain ⟨hat, b, vs, e, hval, hgb, how, hheap, him, hn, hcok, hrep⟩ := h.cells hc
 obtain ⟨hr, hown⟩ := hrep off _ hcell
 obtain ⟨b2, o2, cap, hv, hb2, hi2, cells, e2, hh2, hcap⟩ := hown
 have hne : b ≠ b2 := fun e => by subst e; rw [how] at hb2; simp at hb2
 have hl := g.own_le b2 p
 refine ⟨b, vs, e, g.own b2 p, hgb, hheap, hn, Oy hb2, rfl, h.setAt hat (h.winv.own (h.winv.ow _ _ hb2)) hl (fun c q hcq hq => Hv g w b2 p c fun e => ?_) ?_, hr.mono hl,
  ⟨b2, o2, cap, hv, by simp [Gh.own], hi2, cells, e2, hh2, hcap⟩⟩
 ·subst e; rw [hb2] at hcq; simp only [Option.some.injEq] at hcq; exact hq _ hcq.symm
 ·rw [hval]
  refine .box hgb (by simp [Gh.own, hne, how]) hheap him (by simpa using hn) (fun c hcm => ?_) fun i c hci => ?_
  ·rcases List.mem_or_eq_of_mem_set hcm with hm | rfl
   ·exact hcok c hm
   ·rfl
  ·rw [J5] at hci
   split at hci
   ·rename_i hoi
    obtain ⟨rfl, _⟩ := hoi
    simp only [Option.some.injEq] at hci
    subst hci
    exact ⟨(hr.mono hl).cool, trivial⟩
   ·rename_i hoi
    split at hci
    ·simp at hci
    ·rename_i hne'
     refine ⟨(hrep i c hci).1.mono hl, (hrep i c hci).2.keep fun b' hb' => Hv g w b2 p b' fun e => ?_⟩
     subst e
     rw [hb2] at hb'
     simp only [Option.some.injEq, DX.slot.injEq] at hb'
     omega
theorem XS {j t : Nat} {sl : BE} : (s.setAt j t sl).low.length = s.low.length := by
 unfold St.setAt
 split
 ·rfl
 ·simp
theorem bF {j t : Nat} {sl : BE} : (s.setAt j t sl).ctr = s.ctr := by
 unfold St.setAt
 split <;> rfl
theorem YM {t : TypeId} {po : Operand} {p : vD} {k : Option Nat} {o : Oper} (h : AS T g w tss s ts) (hd : ∀ d, dst = some d → d < ts.size)
  (hk : C6 T.P t = some k) (hp : Aq po = some p) (ho : o.op = .load t po) (he : evalOp T.LP C gi dst (.load k p true) s = some s') :
  BS T g w tss s s' ts dst gi ((execOp (⟨ts, df⟩ : Act).eval o).run T.P w) := by
 have hfall : evalOp T.LP C gi dst (.load k p false) s = some s' → BS T g w tss s s' ts dst gi ((execOp (⟨ts, df⟩ : Act).eval o).run T.P w) :=
  fun he => gw h hd hk hp ho he
 have hP := h.val (df := df) hp
 simp only [evalOp] at he hfall
 split at he
 ·rename_i hval; rw [hval] at hfall; exact hfall he
 ·rename_i hval; rw [hval] at hfall; exact hfall he
 ·rename_i j t' g' off hval
  rw [hval] at hP hfall
  simp only at hfall
  obtain ⟨b, hv, hgb⟩ := hP.ptr'
  split at he
  ·rename_i cs hcs
   rw [hcs] at hfall
   split at he
   ·rename_i z xs _ hcell
    obtain ⟨b', vs, e, g1, hgb', hheap, hn, hkept, hgbe, hinv, hrep, hown⟩ := h.coolBox hcs hcell (.slot s.low.length (dst.getD 0) 0)
    rw [hgb] at hgb'
    simp only [Option.some.injEq] at hgb'
    subst hgb'
    have hlt : off < vs.size := by rw [hn]; exact (List.getElem?_eq_some_iff.1 hcell).1
    have hl := OX (P := T.P) hk (b := b) (o := off) (us := fun i => vs.getD (off + i) Go.undef) (w := w) fun j hj => Da hheap (by simp [Bf] at hj; omega)
    refine ⟨g1, w, vs.getD off Go.undef, .inl ?_, hkept, hinv.put he hd hrep fun d hdd => ?_, fun n _ _ => by rw [hgbe]⟩
    ·simp only [execOp, ho, Instr.loadAt, hv, Instr.sureAddr, Sem.run_bind, Sem.run_pure, Result.andThen_ok, hl, mV, Nat.add_zero]
    ·rw [XS]; subst hdd; exact hown
   ·exact hfall he
  ·simp at he
 ·simp at he
end
end Go.Lf
namespace Go.Lf
open Go
section
variable {T : Tables} {g : Gh} {w : World} {tss : List (Array Value)} {s s' : St} {ts : Array Value} {dst : Option Nat} {gi : Nat} {df : List Deferred} {C : AP}
theorem fc {P : Program} {w : World} {t : TypeId} {k : Option Nat} (hk : C6 P t = some k) {cs : Array Value} {off : Nat} (h : ∀ j, j < Bf k → off + j < cs.size) :
  (Go.part t cs off).run P w = .ok (mV k fun j => cs.getD (off + j) Go.undef) w := by
 obtain ⟨d, i, hu, hi, hs, ha⟩ := Cb hk
 unfold Go.part
 simp only [Sem.run_bind, MM hu, ha, Result.andThen_ok]
 cases k with
 | none =>
  have h0 := h 0 (by simp [Bf])
  have : cs[off]? = some (cs.getD off Go.undef) := by simp [Array.getD, show off < cs.size by omega]
  simp only [Option.isSome_none, Bool.false_eq_true, if_false, this, Sem.run_pure]
  rfl
 | some n =>
  simp only [Option.isSome_some, if_true, Sem.run_bind, CO hi, hs, Bf, Option.getD_some, Result.andThen_ok, Sem.run_pure]
  congr 2
  simp only [Bf, Option.getD_some] at h
  apply Array.ext
  ·simp
   by_cases hn : n = 0
   ·subst hn; simp; omega
   ·have := h (n - 1) (by omega); omega
  ·intro j h1 h2
   simp at h1 h2
   simp [Array.getD, h j h2]
theorem Xv {v : Value} {x y : LV} {k : Option Nat} {off : Nat} (h : Bj g v x) (hp : Jk k off x = some y) :
  ∃ cs, v = .agg cs ∧ Bj g (mV k fun j => cs.getD (off + j) Go.undef) y ∧ y.cold = true ∧ ∀ j, j < Bf k → off + j < cs.size := by
 unfold Jk at hp
 split at hp
 ·rename_i ds
  cases h with
  | d h => cases h with
   | agg vs _ hn hr =>
    simp only [Option.map_eq_some_iff] at hp
    obtain ⟨z, hz, rfl⟩ := hp
    obtain ⟨h1, h2⟩ := aX (us := fun i => vs.getD i Go.undef) hr hz
    exact ⟨vs, rfl, .d h1, rfl, fun j hj => by rw [hn]; exact h2 j hj⟩
 ·rename_i ds
  cases h with
  | agg vs _ hn hh hr =>
   obtain ⟨h1, h3, h2⟩ := S8 (us := fun i => vs.getD i Go.undef) hr hp
   exact ⟨vs, rfl, h1, h3, fun j hj => by rw [hn]; exact h2 j hj⟩
 ·simp at hp
theorem mA {t : TypeId} {fs : Array Field} {f : Nat} {fld : Field} {k : Option Nat} {xo : Operand} {x : vD} {o : Oper} (h : AS T g w tss s ts) (hd : ∀ d, dst = some d → d < ts.size)
  (hu : T.P.underlying t = some (.struct fs)) (hf : fs[f]? = some fld) (hk : C6 T.P fld.type = some k) (hx : Aq xo = some x) (ho : o.op = .field t xo f)
  (he : evalOp T.LP C gi dst (.field k fld.offset x) s = some s') : BS T g w tss s s' ts dst gi ((execOp (⟨ts, df⟩ : Act).eval o).run T.P w) := by
 simp only [evalOp] at he
 have hX := h.val (df := df) hx
 split at he
 ·rename_i y hy
  obtain ⟨cs, hv, h1, h2, h3⟩ := Xv hX hy
  refine A6 h hd ?_ he h1 h2
  simp [execOp, ho, Instr.field, AW hu, hf, hv, asAgg, fc hk h3]
 ·simp at he
theorem XJ {v : Value} {x y : LV} {off : Nat} (h : Bj g v x) (hs : IS off x = some y) :
  ∃ b o, v = .pointer (some ⟨b, o, none⟩) ∧ Bj g (.pointer (some ⟨b, o + off, none⟩)) y ∧ y.cold = true := by
 unfold IS at hs
 split at hs
 ·rename_i cs o
  simp only [Option.some.injEq] at hs
  subst hs
  obtain ⟨b, o', us, hv, hi, hr⟩ := h.fptrD
  exact ⟨b, o' + o, hv, by rw [Nat.add_assoc]; exact .d (.fptr b o' _ cs us hi hr), rfl⟩
 ·rename_i cs o
  simp only [Option.some.injEq] at hs
  subst hs
  obtain ⟨b, o', us, hv, hh, hi, hr⟩ := h.fptrL
  exact ⟨b, o' + o, hv, by rw [Nat.add_assoc]; exact .fptr b o' _ cs us hh hi hr, rfl⟩
 ·simp only [Option.some.injEq] at hs
  subst hs
  obtain ⟨b, hv, hg⟩ := h.ptr'
  exact ⟨b, _, hv, .ptr hg, rfl⟩
 ·simp at hs
theorem kM {t : TypeId} {fs : Array Field} {f : Nat} {off n : Nat} {xo : Operand} {x : vD} {o : Oper} (h : AS T g w tss s ts) (hd : ∀ d, dst = some d → d < ts.size)
  (hu : T.P.underlying t = some (.struct fs)) (hf : XX T.P fs f = some (off, n)) (hn : n ≠ 0) (hx : Aq xo = some x) (ho : o.op = .fieldAddr t xo f)
  (he : evalOp T.LP C gi dst (.faddr off x) s = some s') : BS T g w tss s s' ts dst gi ((execOp (⟨ts, df⟩ : Act).eval o).run T.P w) := by
 unfold XX at hf
 split at hf
 ·rename_i fld hfld
  simp only [Option.map_eq_some_iff, Prod.mk.injEq] at hf
  obtain ⟨k, hk, rfl, rfl⟩ := hf
  obtain ⟨d, i, hu', hi, hs, ha⟩ := Cb hk
  simp only [evalOp] at he
  have hX := h.val (df := df) hx
  split at he
  ·rename_i y hy
   obtain ⟨b, o', hv, hr, hc⟩ := XJ hX hy
   refine A6 h hd ?_ he hr hc
   simp [execOp, ho, Instr.fieldAt, AW hu, hfld, hv, Instr.sureAddr, fieldPlace, CO hi, hs, hn, G4]
  ·simp at he
 ·simp at hf
theorem lP {t e : TypeId} {n : Nat} {k : Option Nat} {xo io : Operand} {x i : vD} {o : Oper} (h : AS T g w tss s ts) (hd : ∀ d, dst = some d → d < ts.size)
  (hu : T.P.underlying t = some (.array n e)) (hk : C6 T.P e = some k) (hx : Aq xo = some x) (hi : Aq io = some i) (ho : o.op = .index t xo io)
  (he : evalOp T.LP C gi dst (.index k (Bf k) n x i) s = some s') : BS T g w tss s s' ts dst gi ((execOp (⟨ts, df⟩ : Act).eval o).run T.P w) := by
 simp only [evalOp] at he
 have hX := h.val (df := df) hx
 have hI := h.val (df := df) hi
 obtain ⟨d, ie, hu', hie, hs, ha⟩ := Cb hk
 split at he
 ·rename_i m hm
  have hmv := hI.nat hm
  split at he
  ·rename_i hlt
   split at he
   ·rename_i y hy
    obtain ⟨cs, hv, h1, h2, h3⟩ := Xv hX hy
    refine A6 h hd ?_ he h1 h2
    simp [execOp, ho, Instr.index, asIntOf, hmv, AW hu, hv, hlt, CO hie, hs, fc hk h3]
   ·simp at he
  ·simp at he
 ·simp at he
theorem jX {t e : TypeId} {n : Nat} {k : Option Nat} {xo io : Operand} {x i : vD} {o : Oper} (h : AS T g w tss s ts) (hd : ∀ d, dst = some d → d < ts.size)
  (hu : T.P.underlying t = some (.array n e)) (hk : C6 T.P e = some k) (hx : Aq xo = some x) (hi : Aq io = some i) (ho : o.op = .indexAddr t xo io)
  (he : evalOp T.LP C gi dst (.iaddrA (Bf k) n x i) s = some s') : BS T g w tss s s' ts dst gi ((execOp (⟨ts, df⟩ : Act).eval o).run T.P w) := by
 simp only [evalOp] at he
 have hX := h.val (df := df) hx
 have hI := h.val (df := df) hi
 obtain ⟨d, ie, hu', hie, hs, ha⟩ := Cb hk
 split at he
 ·rename_i m hm
  have hmv := hI.nat hm
  split at he
  ·rename_i hlt
   split at he
   ·rename_i y hy
    obtain ⟨b, o', hv, hr, hc⟩ := XJ hX hy
    refine A6 h hd ?_ he hr hc
    simp [execOp, ho, Instr.indexAt, asIntOf, hmv, AW hu, hv, Instr.sureAddr, hlt, CO hie, hs, G4]
   ·simp at he
  ·simp at he
 ·simp at he
theorem Ib {v : Value} {x : LV} {z : Nat} {xs : List DV} (h : Bj g v x) (he : MI x = some (z, xs)) : Cf g.im g.fm v (.slice z xs) := by
 unfold MI at he
 split at he <;> simp only [Option.some.injEq, Prod.mk.injEq, reduceCtorEq] at he
 ·obtain ⟨rfl, rfl⟩ := he; cases h with | d h => exact h
 ·obtain ⟨rfl, rfl⟩ := he; cases h with | hot h => exact h
 ·obtain ⟨rfl, rfl⟩ := he; cases h with | full h => exact h
theorem HK {v : Value} {z : Nat} {xs : List DV} (h : Cf g.im g.fm v (.slice z xs)) : ∃ (b o : Nat) (sp : Option Nat) (cap : Nat) (us : Nat → Value), v = .slice (some ⟨b, o, sp⟩) xs.length cap ∧ (0 < cap → sp = none) ∧ xs.length ≤ cap ∧
  (∀ x, x ∈ xs → x.cells.length = z) ∧ (∀ i, i < xs.length * z → g.im b (o + i) = some (us i)) ∧ ∀ i c, (xs.flatMap DV.cells)[i]? = some c → Cf g.im g.fm (us i) c := by
 cases h with
 | slice b o cap _ _ us hc hz hi hr => exact ⟨b, o, none, cap, us, rfl, fun _ => rfl, hc, hz, hi, hr⟩
 | gone b o sp z => exact ⟨b, o, some sp, 0, fun _ => Go.undef, rfl, by simp, by simp, by simp, by simp, by simp⟩
theorem KW {xs : List DV} {z : Nat} (h : ∀ x, x ∈ xs → x.cells.length = z) : (xs.flatMap DV.cells).length = xs.length * z := by
 induction xs with
 | nil => simp
 | cons x r ih =>
  simp only [List.flatMap_cons, List.length_append, List.length_cons, Nat.add_mul, Nat.one_mul]
  rw [ih fun y hy => h y (by simp [hy]), h x (by simp)]
  omega
theorem dz {z : Nat} : ∀ {xs : List DV}, (∀ x, x ∈ xs → x.cells.length = z) → ∀ {i j : Nat} {e c : DV}, xs[i]? = some e → e.cells[j]? = some c → (xs.flatMap DV.cells)[i * z + j]? = some c
 | [], _, i, j, e, c, he, _ => by simp at he
 | x :: r, h, 0, j, e, c, he, hc => by
  simp only [List.getElem?_cons_zero, Option.some.injEq] at he
  subst he
  simp only [List.flatMap_cons, Nat.zero_mul, Nat.zero_add]
  rw [List.getElem?_append_left (List.getElem?_eq_some_iff.1 hc).1]
  exact hc
 | x :: r, h, i + 1, j, e, c, he, hc => by
  simp only [List.getElem?_cons_succ] at he
  have := dz (xs := r) (fun y hy => h y (by simp [hy])) he hc
  have hx := h x (by simp)
  simp only [List.flatMap_cons]
  rw [List.getElem?_append_right (by rw [hx, Nat.add_mul]; omega), hx]
  rw [show (i + 1) * z + j - z = i * z + j by rw [Nat.add_mul]; omega]
  exact this
theorem jo {v : Value} {z : Nat} {xs : List DV} (h : Cf g.im g.fm v (.slice z xs)) {i : Nat} {e : DV} (he : xs[i]? = some e) :
  ∃ b o cap, v = .slice (some ⟨b, o, none⟩) xs.length cap ∧ Cf g.im g.fm (.pointer (some ⟨b, o + i * z, none⟩)) (.fptr e.cells 0) ∧ i < xs.length := by
 obtain ⟨b, o, sp, cap, us, hv, hsp, hc, hz, hi, hr⟩ := HK h
 have hlt := (List.getElem?_eq_some_iff.1 he).1
 obtain rfl := hsp (by omega)
 have hez := hz e (List.mem_of_getElem? he)
 refine ⟨b, o, cap, hv, ?_, hlt⟩
 have := Cf.fptr (im := g.im) (fm := g.fm) b (o + i * z) 0 e.cells (fun j => us (i * z + j)) (fun j hj => ?_) fun j c hc => hr _ _ (dz hz he hc)
 ·simpa using this
 ·rw [Nat.add_assoc]
  apply hi
  have : (i + 1) * z ≤ xs.length * z := Nat.mul_le_mul_right z (by omega)
  rw [Nat.add_mul] at this
  omega
theorem ip {t e : TypeId} {k : Option Nat} {xo io : Operand} {x i : vD} {o : Oper} (h : AS T g w tss s ts) (hd : ∀ d, dst = some d → d < ts.size)
  (hu : T.P.underlying t = some (.slice e)) (hk : C6 T.P e = some k) (hx : Aq xo = some x) (hi : Aq io = some i) (ho : o.op = .indexAddr t xo io)
  (he : evalOp T.LP C gi dst (.iaddrS (Bf k) x i) s = some s') : BS T g w tss s s' ts dst gi ((execOp (⟨ts, df⟩ : Act).eval o).run T.P w) := by
 simp only [evalOp] at he
 have hX := h.val (df := df) hx
 have hI := h.val (df := df) hi
 obtain ⟨d, ie, hu', hie, hs, ha⟩ := Cb hk
 split at he
 ·rename_i z xs m hxs hm
  have hmv := hI.nat hm
  split at he
  ·rename_i el hel
   split at he
   ·rename_i hz
    subst hz
    obtain ⟨b, o', cap, hv, hr, hlt⟩ := jo (Ib hX hxs) hel
    refine A6 h hd ?_ he (.d hr) rfl
    simp [execOp, ho, Instr.indexAt, asIntOf, hmv, AW hu, hv, hlt, CO hie, hs, G4]
   ·simp at he
  ·simp at he
 ·simp at he
theorem Bj.dinv {v : Value} {x : DV} (h : Bj g v (.d x)) : Cf g.im g.fm v x := by
 cases h with | d h => exact h
theorem Pi {v : Value} (h : Cf g.im g.fm v .nils) : v = .slice none 0 0 := by cases h; rfl
theorem qG {t : TypeId} {e : TypeId} {xo : Operand} {x : vD} {o : Oper} {c : Call} (h : AS T g w tss s ts) (hd : ∀ d, dst = some d → d < ts.size)
  (hu : T.P.underlying t = some (.slice e)) (hx : Aq xo = some x) (ho : o.op = .call c) (hc : c.callee = .builtin .len) (ha : c.args = #[xo]) (hat : c.argTypes[0]? = some t)
  (he : evalOp T.LP C gi dst (.len x) s = some s') : BS T g w tss s s' ts dst gi ((execOp (⟨ts, df⟩ : Act).eval o).run T.P w) := by
 simp only [evalOp] at he
 have hX := h.val (df := df) hx
 split at he
 ·rename_i n hn
  have hlen : ∃ a cap, (⟨ts, df⟩ : Act).eval xo = .slice a n cap := by
   unfold eS at hn
   split at hn
   ·rename_i hval
    rw [hval] at hX
    simp only [Option.some.injEq] at hn
    subst hn
    exact ⟨none, 0, Pi hX.dinv⟩
   ·simp only [Option.map_eq_some_iff] at hn
    obtain ⟨p, hp, rfl⟩ := hn
    obtain ⟨b, o', sp, cap, us, hv, _⟩ := HK (Ib hX hp)
    exact ⟨_, cap, hv⟩
  obtain ⟨a, cap, hv⟩ := hlen
  refine A6 h hd (v := .int .i64 n) ?_ he (.d (.int _)) rfl
  simp [execOp, ho, resolve, hc, ha, invoke, builtin, Builtin.len_, hat, AW hu, hv, goInt]
 ·simp at he
end
end Go.Lf
