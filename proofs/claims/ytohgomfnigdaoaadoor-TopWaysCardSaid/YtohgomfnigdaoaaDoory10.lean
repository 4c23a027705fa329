/- A part of the proof. -/
import Derived.Test.YtohgomfnigdaoaaDoory9
set_option linter.all false
namespace Go.Lf
open Go
theorem Ed.v_inv {g : Gh} {w : World} {j t : Nat} {v : Value} {x : LV} (h : Ed g w j t v (.v x)) : CL g v x ∧ HD g w j t v x := by
 cases h with
 | v h ho => exact ⟨h, ho⟩
def Gh.own (g : Gh) (b : Nat) (p : D4) : Gh := { g with ow := fun c => if c = b then some p else g.ow c }
theorem Gh.own_le (g : Gh) (b : Nat) (p : D4) : g.Le (g.own b p) := ⟨fun _ _ _ h => h, fun _ _ h => h, fun _ _ h => h, fun _ _ h => h⟩
theorem JF (g : Gh) (w : World) (b : Nat) (p : D4) (c : Nat) (h : c ≠ b) : Pq g w (g.own b p) w c :=
 ⟨rfl, fun _ => rfl, rfl, by simp [Gh.own, h]⟩
section
variable {T : Tables} {g : Gh} {w : World} {tss : List (Array Value)} {s s' : St} {ts : Array Value} {dst : Option Nat} {gi : Nat} {df : List Deferred} {C : AS}
theorem J0.own {c : Nat} (h : J0 T g w c) {b : Nat} {p : D4} (hb : b < w.heap.size) : J0 T (g.own b p) w c :=
 ⟨h.im, h.one, h.fm, fun c p' hc => by
  simp only [Gh.own] at hc
  split at hc
  ·subst_vars; exact hb
  ·exact h.ow _ _ hc, h.gb, h.lp, h.ctr, h.globs⟩
theorem AX.reown (h : AX T g w tss s ts) {b x i : Nat} {p : D4} (ho : g.ow b = some (.slot s.low.length x i)) (hx : ∀ sl, s.env.get x = some sl → ∃ c : LV, sl = .v c ∧ c.cold = true) :
  AX T (g.own b p) w tss s ts := by
 refine ⟨h.winv.own (h.winv.ow _ _ ho), h.stack.keep (g.own_le b p) fun c q hc hq => JF g w b p c fun e => ?_, fun t sl hs => ?_⟩
 ·subst e; rw [ho] at hc; simp only [Option.some.injEq] at hc; subst hc; simp [D4.level] at hq
 ·by_cases ht : t = x
  ·subst ht
   obtain ⟨c, rfl, hc⟩ := hx sl hs
   have hr := (h.env t _ hs).v_inv.1
   exact .v (hr.mono (g.own_le b p)) (HD.of_cold (hr.mono (g.own_le b p)) hc)
  ·refine (h.env t sl hs).keep (g.own_le b p) fun c i hc => JF g w b p c fun e => ?_
   subst e
   rw [ho] at hc
   simp only [Option.some.injEq, D4.slot.injEq] at hc
   exact ht hc.2.1.symm
theorem TE {b : Nat} {p q : D4} (ho : g.ow b = some q) : RE g w (g.own b p) w :=
 ⟨g.own_le b p, fun c _ hc => JF g w b p c fun e => by subst e; rw [ho] at hc; simp at hc, Nat.le_refl _, rfl, rfl, rfl, fun _ => rfl⟩
theorem AX.take (h : AX T g w tss s ts) {xo : Operand} {x : Opd} (hx : Av xo = some x) :
  CL g ((⟨ts, df⟩ : Act).eval xo) (s.take T.LP x).1 ∧ AX T g w tss (s.take T.LP x).2 ts ∧ (s.take T.LP x).2.low = s.low ∧ (s.take T.LP x).2.ctr = s.ctr ∧
   (((s.take T.LP x).1.cold = true ∧ (s.take T.LP x).2 = s) ∨
    (∃ t z xs, x = .tmp t ∧ (s.take T.LP x).1 = .hot z xs ∧ (s.take T.LP x).2.env.get t = some (.v (.d (.slice z xs))) ∧ (∀ u, u ≠ t → (s.take T.LP x).2.env.get u = s.env.get u) ∧
     Own g w (.slot s.low.length t 0) ((⟨ts, df⟩ : Act).eval xo) (.hot z xs))) := by
 have hv := h.val (df := df) hx
 unfold St.take
 cases x with
 | tmp t =>
  have hxo : (⟨ts, df⟩ : Act).eval xo = ts.getD t Go.undef := by
   cases xo <;> simp only [Av, Option.some.injEq, Option.map_eq_some_iff, reduceCtorEq, and_false, exists_false, Opd.tmp.injEq] at hx
   subst hx; rfl
  simp only
  split
  ·rename_i z xs he
   obtain ⟨hr, ho⟩ := (h.env t _ he).v_inv
   refine ⟨by rw [hxo]; exact hr, ⟨h.winv, h.stack, fun u sl hs => ?_⟩, rfl, rfl, .inr ⟨t, z, xs, rfl, rfl, by simp [Ek], fun u hu => by simp [Ek, hu], by rw [hxo]; exact ho⟩⟩
   simp only [Ek] at hs
   split at hs
   ·rename_i e; subst e; simp only [Option.some.injEq] at hs; subst hs; exact .v hr.cool trivial
   ·exact h.env u sl hs
  ·exact ⟨hv, h, rfl, rfl, .inl ⟨Uj s t, rfl⟩⟩
 | con v => exact ⟨hv, h, rfl, rfl, .inl ⟨rfl, rfl⟩⟩
 | glob n => exact ⟨hv, h, rfl, rfl, .inl ⟨rfl, rfl⟩⟩
theorem AX.takeTo (h : AX T g w tss s ts) {xo : Operand} {x : Opd} (hx : Av xo = some x) (p : D4) :
  ∃ g', CL g' ((⟨ts, df⟩ : Act).eval xo) (s.take T.LP x).1 ∧ AX T g' w tss (s.take T.LP x).2 ts ∧ (s.take T.LP x).2.low = s.low ∧ (s.take T.LP x).2.ctr = s.ctr ∧
   RE g w g' w ∧ g'.gb = g.gb ∧ g'.im = g.im ∧ g'.fm = g.fm ∧ Own g' w p ((⟨ts, df⟩ : Act).eval xo) (s.take T.LP x).1 ∧
   ((s.take T.LP x).1.cold = true ∨ ∃ z xs, (s.take T.LP x).1 = .hot z xs) := by
 obtain ⟨h1, h2, h3, h4, h5⟩ := h.take (df := df) hx
 rcases h5 with ⟨hc, hs⟩ | ⟨t, z, xs, rfl, hhot, hbot, _, ho⟩
 ·exact ⟨g, h1, h2, h3, h4, .refl g w, rfl, rfl, rfl, Own.of_cold (EI hc), .inl hc⟩
 ·rw [hhot] at h1 ⊢
  obtain ⟨b, o, cap, hv, hb, hi, cells, e, hh, hcap⟩ := ho
  have hre := h2.reown (p := p) (b := b) (x := t) (i := 0) (by rw [h3]; exact hb) fun sl hs => by rw [hbot] at hs; simp only [Option.some.injEq] at hs; subst hs; exact ⟨_, rfl, rfl⟩
  exact ⟨g.own b p, h1.mono (g.own_le b p), hre, h3, h4, TE hb, rfl, rfl, rfl, ⟨b, o, cap, hv, by simp [Gh.own], hi, cells, e, hh, hcap⟩, .inr ⟨z, xs, rfl⟩⟩
theorem bU {j t : Nat} {v : Value} {x : LV} (h : Own g w (.slot j t 0) v x) (hx : x.cold = true ∨ ∃ z xs, x = .hot z xs) (hr : CL g v x) : HD g w j t v x := by
 rcases hx with hc | ⟨z, xs, rfl⟩
 ·exact HD.of_cold hr hc
 ·exact h
theorem Sr {xo : Operand} {x : Opd} {o : Oper} (h : AX T g w tss s ts) (hd : ∀ d, dst = some d → d < ts.size) (hx : Av xo = some x)
  (ho : o.op = .move xo ∨ o.op = .assign xo) (he : evalOp T.LP C gi dst (.move x true) s = some s') :
  B8 T g w tss s s' ts dst gi ((execOp (⟨ts, df⟩ : Act).eval o).run T.P w) := by
 simp only [evalOp] at he
 obtain ⟨g', h1, h2, h3, h4, h5, h6, h7, h8, h9, h10⟩ := h.takeTo (df := df) hx (.slot s.low.length (dst.getD 0) 0)
 refine ⟨g', w, (⟨ts, df⟩ : Act).eval xo, .inl ?_, h5, h2.put he hd h1 fun d hdd => ?_, fun n _ _ => by rw [h6]⟩
 ·rcases ho with ho | ho <;> simp only [execOp, ho] <;> rfl
 ·rw [h3]
  subst hdd
  exact bU h9 h10 h1
theorem AX.setAt (h : AX T g w tss s ts) {g' : Gh} {w' : World} {j t : Nat} {sl0 sl : BQ} (hs : s.at j t = some sl0) (hw : J0 T g' w' s.ctr) (hl : g.Le g')
  (hk : ∀ b p, g.ow b = some p → (∀ i, p ≠ .slot j t i) → Pq g w g' w' b) (hr : Ed g' w' j t ((sK tss s.low.length ts j).getD t Go.undef) sl) :
  AX T g' w' tss (s.setAt j t sl) ts := by
 unfold St.setAt
 unfold St.at at hs
 unfold sK at hr
 split
 ·rename_i hj
  subst hj
  rw [if_pos rfl] at hr
  refine ⟨hw, h.stack.keep hl fun b p hb hp => hk b p hb fun i e => by subst e; simp [D4.level] at hp, fun u su hu => ?_⟩
  simp only [Ek] at hu
  split at hu
  ·rename_i hut; subst hut; simp only [Option.some.injEq] at hu; subst hu; exact hr
  ·rename_i hut
   exact (h.env u su hu).keep hl fun b i hb => hk b _ hb fun i' e => by simp only [D4.slot.injEq] at e; exact hut e.2.1
 ·rename_i hj
  rw [if_neg hj] at hs hr
  split at hs
  ·rename_i fr hfr
   have hjl : j < s.low.length := (List.getElem?_eq_some_iff.1 hfr).1
   refine ⟨hw, ⟨by simpa using h.stack.len, fun j' ts' fr' h1 h2 => ?_⟩, fun u su hu => ?_⟩
   ·by_cases hjj : j = j'
    ·subst hjj
     simp [hfr] at h2
     subst h2
     have hf := h.stack.fr j ts' fr h1 hfr
     have hts : tss.getD j #[] = ts' := by simp [List.getD, h1]
     rw [hts] at hr
     refine ⟨fun u su hu => ?_, fun r hr' => (hf.loop r hr').keep hl fun b hb => hk b _ hb fun i e => by simp at e⟩
     simp only [Ek] at hu
     split at hu
     ·rename_i hut; subst hut; simp only [Option.some.injEq] at hu; subst hu; exact hr
     ·rename_i hut
      exact (hf.env u su hu).keep hl fun b i hb => hk b _ hb fun i' e => by simp only [D4.slot.injEq] at e; exact hut e.2.1
    ·have h2' : s.low[j']? = some fr' := by simpa [List.getElem?_modify, hjj] using h2
     exact (h.stack.fr j' ts' fr' h1 h2').keep hl fun b p hb hp => hk b p hb fun i e => by subst e; exact hjj (by simpa [D4.level] using hp)
   ·simp only [List.length_modify]
    exact (h.env u su hu).keep hl fun b i hb => hk b _ hb fun i' e => by simp only [D4.slot.injEq] at e; exact hj e.1.symm
  ·simp at hs
theorem wi {LP : A6} {x : Opd} : (s.take LP x).2.low.length = s.low.length := by
 unfold St.take
 cases x with
 | tmp t => simp only; split <;> rfl
 | _ => rfl
end
end Go.Lf
namespace Go.Lf
open Go
def Gh.fresh (g : Gh) (b : Nat) (p : D4) (gn : Option Nat) : Gh :=
 { g with ow := fun c => if c = b then some p else g.ow c, gb := fun n => if gn = some n then some b else g.gb n }
def World.push (w : World) (o : Obj) : World := { w with heap := w.heap.push o }
theorem IO {w : World} {o : Obj} {b : Nat} (h : b < w.heap.size) : (World.push w o).heap[b]? = w.heap[b]? := by
 simp only [World.push, Array.getElem?_push]
 rw [if_neg (by omega)]
theorem MY {w : World} {o : Obj} : (World.push w o).heap[w.heap.size]? = some o := Array.getElem?_push_size
theorem E5 {w : World} {o : Obj} : (World.push w o).heap.size = w.heap.size + 1 := by simp [World.push]
theorem ji {w : World} {a : Addr} {v : Value} (h : w.cell? a = some v) : a.block < w.heap.size := by
 unfold World.cell? at h
 split at h
 ·rename_i hh; exact (Array.getElem?_eq_some_iff.1 hh).1
 ·simp at h
theorem FD {w w' : World} {a : Addr} (h : w'.heap[a.block]? = w.heap[a.block]?) : w'.cell? a = w.cell? a := by
 unfold World.cell?; rw [h]
section
variable {T : Tables} {g : Gh} {w : World} {tss : List (Array Value)} {s s' : St} {ts : Array Value} {dst : Option Nat} {gi : Nat} {df : List Deferred} {C : AS}
theorem J0.im_fresh {c : Nat} (h : J0 T g w c) {b : Nat} (hb : w.heap.size ≤ b) (i : Nat) : g.im b i = none := by
 cases hi : g.im b i with
 | none => rfl
 | some u => have := ji (h.im _ _ _ hi); simp only at this; omega
theorem J0.fm_fresh {c : Nat} (h : J0 T g w c) {b : Nat} (hb : w.heap.size ≤ b) : g.fm b = none := by
 cases hi : g.fm b with
 | none => rfl
 | some u => obtain ⟨c, hc⟩ := h.fm _ _ hi; have := (Array.getElem?_eq_some_iff.1 hc).1; omega
theorem J0.ow_fresh {c : Nat} (h : J0 T g w c) {b : Nat} (hb : w.heap.size ≤ b) : g.ow b = none := by
 cases hi : g.ow b with
 | none => rfl
 | some u => have := h.ow _ _ hi; omega
theorem Vy {b : Nat} {p : D4} {gn : Option Nat} (hg : ∀ n, gn = some n → g.gb n = none) : g.Le (g.fresh b p gn) :=
 ⟨fun _ _ _ h => h, fun _ _ h => h, fun n c h => by
  simp only [Gh.fresh]
  split
  ·rename_i e; rw [hg n e] at h; simp at h
  ·exact h, fun _ _ h => h⟩
theorem UT {o : Obj} {p : D4} {gn : Option Nat} {b : Nat} (hb : b < w.heap.size) : Pq g w (g.fresh w.heap.size p gn) (World.push w o) b :=
 ⟨IO hb, fun _ => rfl, rfl, by simp only [Gh.fresh]; rw [if_neg (by omega)]⟩
theorem J0.fresh {c : Nat} (h : J0 T g w c) (o : Obj) (p : D4) {gn : Option Nat} (hg : ∀ n, gn = some n → n < c ∧ g.gb n = none) :
  J0 T (g.fresh w.heap.size p gn) (World.push w o) c where
 im b i u hi := by
  have := h.im b i u hi
  rw [FD (IO (ji this))]; exact this
 one := h.one
 fm b es hf := by
  obtain ⟨c, hc⟩ := h.fm b es hf
  exact ⟨c, by rw [IO (Array.getElem?_eq_some_iff.1 hc).1]; exact hc⟩
 ow b q hb := by
  simp only [Gh.fresh] at hb
  rw [E5]
  split at hb
  ·omega
  ·have := h.ow b q hb; omega
 gb n b hb := by
  simp only [Gh.fresh] at hb
  rw [E5]
  split at hb
  ·simp only [Option.some.injEq] at hb; omega
  ·have := h.gb n b hb; omega
 ctr n hn := by
  simp only [Gh.fresh]
  split
  ·rename_i e; have := (hg n e).1; omega
  ·exact h.ctr n hn
 lp b d hb := by
  obtain ⟨r, hr, hd⟩ := h.lp b d hb
  exact ⟨r, by rw [IO (Array.getElem?_eq_some_iff.1 hr).1]; exact hr, hd⟩
 globs n := (h.globs n)
theorem Xj {w : World} {o : Obj} (ho : ii (some o) = (0, 0)) (b : Nat) : TR (World.push w o) b = TR w b := by
 unfold TR
 by_cases hb : b < w.heap.size
 ·rw [IO hb]
 ·have hn : w.heap[b]? = none := Array.getElem?_eq_none (by omega)
  rw [hn]
  by_cases hb2 : b = w.heap.size
  ·subst hb2; rw [MY, ho]; rfl
  ·have : (World.push w o).heap[b]? = none := Array.getElem?_eq_none (by rw [E5]; omega)
   rw [this]
theorem aJ {c : Nat} (h : J0 T g w c) (o : Obj) (ho : ii (some o) = (0, 0)) (p : D4) {gn : Option Nat} (hg : ∀ n, gn = some n → n < c ∧ g.gb n = none) :
  RE g w (g.fresh w.heap.size p gn) (World.push w o) :=
 ⟨Vy fun n e => (hg n e).2, fun b hb _ => UT hb, by rw [E5]; omega, rfl, rfl, rfl, Xj ho⟩
theorem AX.fresh (h : AX T g w tss s ts) (o : Obj) (p : D4) {gn : Option Nat} (hg : ∀ n, gn = some n → n < s.ctr ∧ g.gb n = none) :
  AX T (g.fresh w.heap.size p gn) (World.push w o) tss s ts :=
 h.move (h.winv.fresh o p hg) (Vy fun n e => (hg n e).2) fun b _ hb => UT (h.winv.ow _ _ hb)
theorem AX.setSlot (h : AX T g w tss s ts) {d : Nat} (hd : d < ts.size) {v : Value} {sl : BQ} (hr : Ed g w s.low.length d v sl) :
  AX T g w tss { s with env := s.env.set d sl } (jl ts (some d) v) := by
 refine ⟨h.winv, h.stack, fun t sl' hs => ?_⟩
 simp only [Ek] at hs
 by_cases ht : t = d
 ·subst ht
  rw [if_pos rfl] at hs
  simp only [Option.some.injEq] at hs
  subst hs
  rw [jl, NR _ _ _ hd]
  exact hr
 ·rw [if_neg ht] at hs
  rw [jl, NI _ _ _ _ ht]
  exact h.env t sl' hs
theorem ak {v : Value} {d : DV} (h : cv1 v = some d) : (LV.d d).cellOk = true := by
 unfold cv1 at h
 split at h <;> first
  | (simp only [Option.some.injEq] at h; subst h; rfl)
  | (simp at h; done)
theorem Zq : ∀ {vs : List Value} {ds : List DV}, cvs vs = some ds → ∀ d, d ∈ ds → (LV.d d).cellOk = true
 | [], ds, h => by simp only [cvs, Option.some.injEq] at h; subst h; simp
 | x :: r, ds, h => by
  simp only [cvs] at h
  split at h
  ·rename_i y ys hy hys
   simp only [Option.some.injEq] at h
   subst h
   intro d hd
   cases hd with
   | head => exact ak hy
   | tail _ hd => exact Zq hys d hd
  ·simp at h
theorem IW {P : Program} {t : TypeId} {zs : List DV} (h : zeroCells P t = some zs) : ∃ k i v, Ds P t = some k ∧ P.info? t = some i ∧ i.zero = some v ∧ zs.length = CJ k ∧
  v.cells.size = zs.length ∧ (∀ z, z ∈ zs → (LV.d z).cellOk = true) ∧ ∀ im fm (n : Nat) (c : DV), zs[n]? = some c → DX im fm (v.cells.getD n Go.undef) c := by
 unfold zeroCells at h
 split at h
 ·rename_i k z hk hz
  split at h
  ·rename_i hl
   simp only [Option.some.injEq] at h
   subst h
   unfold Uw at hz
   split at hz
   ·rename_i i hi
    split at hz
    ·rename_i v hv
     refine ⟨k, i, v, hk, hi, hv, hl, ?_⟩
     unfold cv at hz
     split at hz
     ·rename_i cs
      simp only [Option.map_eq_some_iff] at hz
      obtain ⟨ds, hds, rfl⟩ := hz
      refine ⟨by have := (DX.cvs (im := fun _ _ => none) (fm := fun _ => none) hds).1; simpa [Value.cells, DV.cells] using this, Zq hds, fun im fm n c hc => ?_⟩
      obtain ⟨v', hv', hr⟩ := (DX.cvs (im := im) (fm := fm) hds).2 n c hc
      simp only [Array.getElem?_toList] at hv'
      simp only [Value.cells]
      rw [Array.getD_eq_getD_getElem?, hv']
      exact hr
     ·rename_i hna
      have hcells : z.cells = [z] := by
       unfold cv1 at hz
       split at hz <;> first
        | (simp only [Option.some.injEq] at hz; subst hz; rfl)
        | (simp at hz; done)
      have hvc : v.cells = #[v] := by
       cases v <;> first | rfl | exact absurd rfl (hna _)
      rw [hcells, hvc]
      refine ⟨rfl, fun z' hz' => ?_, fun im fm n c hc => ?_⟩
      ·simp only [List.mem_singleton] at hz'; subst hz'; exact ak hz
      ·cases n with
       | zero => simp only [List.getElem?_cons_zero, Option.some.injEq] at hc; subst hc; exact DX.cv1 hz
       | succ n => simp at hc
    ·simp at hz
   ·simp at hz
  ·simp at h
 ·simp at h
theorem si {x : LV} : x.isHot = false ∨ x.isHot = true := by cases x.isHot <;> simp
theorem to (h : AX T g w tss s ts) {d : Nat} (hd : d < ts.size) (hgi : gi < s.ctr) (hg : g.gb gi = none) {cs : List LV} {vs : Array Value} {e : TypeId}
  (hn : vs.size = cs.length) (hk : ∀ c, c ∈ cs → c.cellOk = true) (hh : ∀ c, c ∈ cs → c.isHot = false) (hr : ∀ i c, cs[i]? = some c → CL g (vs.getD i Go.undef) c)
  {r : Result Next} (hrun : r = .ok (.value (.pointer (some ⟨w.heap.size, 0, none⟩))) (World.push w (.cells vs e))) :
  B8 T g w tss s { s with env := s.env.set d (.box gi cs) } ts (some d) gi r := by
 have hgn : ∀ n, some gi = some n → n < s.ctr ∧ g.gb n = none := fun n e => by simp only [Option.some.injEq] at e; subst e; exact ⟨hgi, hg⟩
 have hl : g.Le (g.fresh w.heap.size (.slot s.low.length d 0) (some gi)) := Vy fun n e => (hgn n e).2
 refine ⟨g.fresh w.heap.size (.slot s.low.length d 0) (some gi), World.push w (.cells vs e), _, .inl hrun, aJ h.winv _ rfl _ hgn, (h.fresh _ _ hgn).setSlot hd ?_, fun n _ hne => ?_⟩
 ·refine .box (by simp [Gh.fresh]) (by simp [Gh.fresh]) MY (fun i => ?_) hn hk fun i c hc => ⟨(hr i c hc).mono hl, Own.of_cold (hh c (List.mem_of_getElem? hc))⟩
  exact h.winv.im_fresh (Nat.le_refl _) i
 ·simp only [Gh.fresh, Option.some.injEq]
  rw [if_neg (fun e => hne e.symm)]
theorem px {t : TypeId} {zs : List DV} {o : Oper} (h : AX T g w tss s ts) (hd : ∀ d, dst = some d → d < ts.size) (hgi : gi < s.ctr) (hg : g.gb gi = none)
  (hz : zeroCells T.P t = some zs) (ho : o.op = .alloc t) (he : evalOp T.LP C gi dst (.alloc zs) s = some s') :
  B8 T g w tss s s' ts dst gi ((execOp (⟨ts, df⟩ : Act).eval o).run T.P w) := by
 simp only [evalOp] at he
 split at he
 ·rename_i d
  simp only [Option.some.injEq] at he
  subst he
  obtain ⟨k, i, v, hk, hi, hv, hl, hn, hok, hr⟩ := IW hz
  refine to h (hd _ rfl) hgi hg (vs := v.cells) (e := t) (by simpa using hn) ?_ ?_ ?_ ?_
  ·intro c hc
   simp only [List.mem_map] at hc
   obtain ⟨z, hz, rfl⟩ := hc
   exact hok z hz
  ·intro c hc
   simp only [List.mem_map] at hc
   obtain ⟨z, hz, rfl⟩ := hc
   rfl
  ·intro n c hc
   simp only [List.getElem?_map, Option.map_eq_some_iff] at hc
   obtain ⟨z, hz, rfl⟩ := hc
   exact .d (hr _ _ n z hz)
  ·simp [execOp, ho, Instr.alloc, SZ hi hv, newVar, newRow, World.push]
 ·simp at he
theorem CL.known {v : Value} {x : LV} {cs : List LV} (h : CL g v x) (hk : x.known = some cs) : v.cells.size = cs.length ∧ ∀ i c, cs[i]? = some c → CL g (v.cells.getD i Go.undef) c := by
 cases x with
 | agg ds =>
  simp only [LV.known, Option.some.injEq] at hk
  subst hk
  cases h with
  | agg vs _ hn hh hr => exact ⟨hn, hr⟩
 | d y =>
  cases h with
  | d h =>
   have one : ∀ z : DV, v.cells = #[v] → cs = [.d z] → DX g.im g.fm v z → v.cells.size = cs.length ∧ ∀ i c, cs[i]? = some c → CL g (v.cells.getD i Go.undef) c := by
    intro z h1 h2 hz
    rw [h1, h2]
    refine ⟨rfl, fun i c hc => ?_⟩
    cases i with
    | zero => simp only [List.getElem?_cons_zero, Option.some.injEq] at hc; subst hc; exact .d hz
    | succ i => simp at hc
   cases h with
   | bot => simp [LV.known] at hk
   | undef => simp [LV.known] at hk
   | tup => simp [LV.known] at hk
   | agg vs ds hn hr =>
    simp only [LV.known, Option.some.injEq] at hk
    subst hk
    refine ⟨by simpa [Value.cells] using hn, fun i c hc => ?_⟩
    simp only [List.getElem?_map, Option.map_eq_some_iff] at hc
    obtain ⟨z, hz, rfl⟩ := hc
    exact .d (hr i z hz)
   | int n => simp only [LV.known, Option.some.injEq] at hk; exact one _ rfl hk.symm (.int n)
   | bool n => simp only [LV.known, Option.some.injEq] at hk; exact one _ rfl hk.symm (.bool n)
   | nils => simp only [LV.known, Option.some.injEq] at hk; exact one _ rfl hk.symm .nils
   | nilmap => simp only [LV.known, Option.some.injEq] at hk; exact one _ rfl hk.symm .nilmap
   | nilfn => simp only [LV.known, Option.some.injEq] at hk; exact one _ rfl hk.symm .nilfn
   | slice b o cap z xs us hc hz hi hr => simp only [LV.known, Option.some.injEq] at hk; exact one _ rfl hk.symm (.slice b o cap z xs us hc hz hi hr)
   | gone b o sp z => simp only [LV.known, Option.some.injEq] at hk; exact one _ rfl hk.symm (.gone b o sp z)
   | fmap b n e1 e2 h1 h2 h3 h4 => simp only [LV.known, Option.some.injEq] at hk; exact one _ rfl hk.symm (.fmap b n e1 e2 h1 h2 h3 h4)
   | fn f va vb a b h1 h2 h3 h4 => simp only [LV.known, Option.some.injEq] at hk; exact one _ rfl hk.symm (.fn f va vb a b h1 h2 h3 h4)
   | fptr b o off cs us h1 h2 => simp only [LV.known, Option.some.injEq] at hk; exact one _ rfl hk.symm (.fptr b o off cs us h1 h2)
 | tup ds => simp [LV.known] at hk
 | hot z xs =>
  simp only [LV.known, Option.some.injEq] at hk
  subst hk
  have h' := h
  cases h with
  | hot h =>
   cases h <;> (
    refine ⟨rfl, fun i c hc => ?_⟩
    cases i with
    | zero => simp only [List.getElem?_cons_zero, Option.some.injEq] at hc; subst hc; exact h'
    | succ i => simp at hc)
 | full z xs =>
  simp only [LV.known, Option.some.injEq] at hk
  subst hk
  have h' := h
  cases h
  refine ⟨rfl, fun i c hc => ?_⟩
  cases i with
  | zero => simp only [List.getElem?_cons_zero, Option.some.injEq] at hc; subst hc; exact h'
  | succ i => simp at hc
 | ptr _ _ _ _ | mref _ _ _ | fn _ _ _ | fptr _ _ | yield _ _ =>
  simp only [LV.known, Option.some.injEq] at hk
  subst hk
  have h' := h
  cases h
  refine ⟨rfl, fun i c hc => ?_⟩
  cases i with
  | zero => simp only [List.getElem?_cons_zero, Option.some.injEq] at hc; subst hc; exact h'
  | succ i => simp at hc
theorem XV {x : LV} {cs : List LV} (h : x.known = some cs) (hx : x.isHot = false) (hr : ∃ v, CL g v x) : ∀ c, c ∈ cs → c.isHot = false := by
 cases x with
 | agg ds =>
  simp only [LV.known, Option.some.injEq] at h
  subst h
  obtain ⟨v, hr⟩ := hr
  cases hr with
  | agg vs _ hn hh _ => exact hh
 | d y =>
  cases y <;> simp only [LV.known, Option.some.injEq, reduceCtorEq] at h <;> subst h <;> intro c hc <;> simp at hc <;>
   first
    | (subst hc; rfl)
    | (obtain ⟨z, _, rfl⟩ := hc; rfl)
 | hot => simp [LV.isHot] at hx
 | tup => simp [LV.known] at h
 | _ =>
  simp only [LV.known, Option.some.injEq] at h
  subst h
  intro c hc
  simp only [List.mem_singleton] at hc
  subst hc; rfl
theorem u5 {t : TypeId} {n : Nat} {xo : Operand} {x : Opd} {o : Oper} (h : AX T g w tss s ts) (hd : ∀ d, dst = some d → d < ts.size) (hgi : gi < s.ctr) (hg : g.gb gi = none)
  (hx : Av xo = some x) (ho : o.op = .box t xo) (he : evalOp T.LP C gi dst (.box n x) s = some s') :
  B8 T g w tss s s' ts dst gi ((execOp (⟨ts, df⟩ : Act).eval o).run T.P w) := by
 simp only [evalOp] at he
 have hX := h.val (df := df) hx
 split at he
 ·rename_i d
  split at he
  ·rename_i cs hcs
   split at he
   ·rename_i hc
    simp only [Option.some.injEq] at he
    subst he
    obtain ⟨h1, h2⟩ := hX.known hcs
    simp only [List.all_eq_true] at hc
    refine to h (hd _ rfl) hgi hg (e := t) h1 hc.2 (XV hcs (EI (ID _ _ _)) ⟨_, hX⟩) h2 ?_
    simp [execOp, ho, Instr.box, newVar, newRow, World.push]
   ·simp at he
  ·simp at he
 ·simp at he
end
end Go.Lf
namespace Go.Lf
open Go
theorem KL (cs : List LV) (off : Nat) (xs : List LV) (h : off + xs.length ≤ cs.length) (i : Nat) :
  (setCells cs off xs)[i]? = if off ≤ i ∧ i < off + xs.length then xs[i - off]? else cs[i]? := by
 unfold setCells
 have hl : (cs.take off).length = off := by simp; omega
 by_cases h1 : i < off
 ·rw [if_neg (by omega), List.append_assoc, List.getElem?_append_left (by omega), List.getElem?_take, if_pos h1]
 ·by_cases h2 : i < off + xs.length
  ·rw [if_pos (by omega), List.getElem?_append_left (by simp; omega), List.getElem?_append_right (by omega), hl]
  ·rw [if_neg (by omega), List.getElem?_append_right (by simp; omega), List.getElem?_drop]
   congr 1
   simp; omega
theorem Jj (cs : List LV) (off : Nat) (xs : List LV) (h : off + xs.length ≤ cs.length) : (setCells cs off xs).length = cs.length := by
 simp [setCells]; omega
theorem TV {g : Gh} {u : Value} {c : LV} (hr : CL g u c) (hc : c.cellOk = true) : u.oneCell' = true := by
 cases hr with
 | d h => cases h <;> first | rfl | simp [LV.cellOk] at hc
 | hot h => cases h <;> rfl
 | full h => rfl
 | ptr h => rfl
 | mref h => rfl
 | agg => simp [LV.cellOk] at hc
 | tup => simp [LV.cellOk] at hc
 | fn => rfl
 | fptr => rfl
 | yield => rfl
section
variable {T : Tables} {g : Gh} {w : World} {tss : List (Array Value)} {s s' : St} {ts : Array Value} {dst : Option Nat} {gi : Nat} {df : List Deferred} {C : AS}
structure Ut (w w' : World) (b : Nat) (vs : Array Value) (e : TypeId) : Prop where
 here : w'.heap[b]? = some (.cells vs e (0, 0))
 there : ∀ c, c ≠ b → w'.heap[c]? = w.heap[c]?
 size : w'.heap.size = w.heap.size
 os : w'.os = w.os
 tape : w'.tape = w.tape
 output : w'.output = w.output
theorem pP {b : Nat} {vs : Array Value} {e : TypeId} (h : w.heap[b]? = some (.cells vs e (0, 0))) (o : Nat) (xs : List Value) :
  Ut w (if xs = [] then w else AE w b (.cells (M6 vs o xs) e (0, 0))) b (M6 vs o xs) e := by
 have hb : b < w.heap.size := (Array.getElem?_eq_some_iff.1 h).1
 split
 ·rename_i hx; subst hx; exact ⟨h, fun _ _ => rfl, rfl, rfl, rfl, rfl⟩
 ·exact ⟨by rw [A4 _ _ _ _ hb, if_pos rfl], fun c hc => by rw [A4 _ _ _ _ hb, if_neg hc], by simp [AE], rfl, rfl, rfl⟩
theorem J0.stored {c : Nat} (h : J0 T g w c) {w' : World} {b : Nat} {vs vs' : Array Value} {e : TypeId} (hh : w.heap[b]? = some (.cells vs' e (0, 0)))
  (hi : ∀ i, g.im b i = none) (hs : Ut w w' b vs e) : J0 T g w' c where
 im b' i u hu := by
  have : b' ≠ b := fun e => by subst e; rw [hi] at hu; simp at hu
  rw [FD (hs.there _ this)]
  exact h.im _ _ _ hu
 one := h.one
 fm b' es hf := by
  obtain ⟨c, hc⟩ := h.fm _ _ hf
  have : b' ≠ b := fun e => by subst e; rw [hh] at hc; simp at hc
  exact ⟨c, by rw [hs.there _ this]; exact hc⟩
 ow b' p hp := by rw [hs.size]; exact h.ow _ _ hp
 gb n b' hn := by rw [hs.size]; exact h.gb _ _ hn
 lp b' d hb := by
  obtain ⟨r, hr, hd⟩ := h.lp b' d hb
  have : b' ≠ b := fun e => by subst e; rw [hh] at hr; simp at hr
  exact ⟨r, by rw [hs.there _ this]; exact hr, hd⟩
 ctr := h.ctr
 globs := h.globs
theorem Ut.unch {w' : World} {b : Nat} {vs : Array Value} {e : TypeId} (hs : Ut w w' b vs e) {c : Nat} (hc : c ≠ b) : Pq g w g w' c :=
 ⟨hs.there c hc, fun _ => rfl, rfl, rfl⟩
theorem Ut.kept {w' : World} {b : Nat} {vs vs0 : Array Value} {e : TypeId} (hs : Ut w w' b vs e) (hh : w.heap[b]? = some (.cells vs0 e (0, 0))) {p : D4} (ho : g.ow b = some p) : RE g w g w' :=
 ⟨.refl g, fun c _ hc => hs.unch fun e => by subst e; rw [ho] at hc; simp at hc, by rw [hs.size]; exact Nat.le_refl _, hs.os, hs.tape, hs.output, fun c => by
  unfold TR
  by_cases hc : c = b
  ·subst hc; rw [hs.here, hh]; rfl
  ·rw [hs.there c hc]⟩
theorem AX.storeBox (h : AX T g w tss s ts) {j t gn off : Nat} {cs xs : List LV} (hc : s.cells j t gn = some cs) {ws : List Value}
  (hl : ws.length = xs.length) (hoff : off + xs.length ≤ cs.length) (hok : ∀ c, c ∈ xs → c.cellOk = true) (hr : ∀ i c, xs[i]? = some c → CL g (ws.getD i Go.undef) c)
  (ho : ∀ i c, xs[i]? = some c → Own g w (.slot j t (off + i + 1)) (ws.getD i Go.undef) c) :
  ∃ b vs e, g.gb gn = some b ∧ g.ow b = some (.slot j t 0) ∧ w.heap[b]? = some (.cells vs e (0, 0)) ∧ vs.size = cs.length ∧
   ∀ w', Ut w w' b (M6 vs off ws) e → RE g w g w' ∧ AX T g w' tss (s.setAt j t (.box gn (setCells cs off xs))) ts := by
 obtain ⟨hat, b, vs, e, hval, hgb, how, hheap, him, hn, hcok, hrep⟩ := h.cells hc
 refine ⟨b, vs, e, hgb, how, hheap, hn, fun w' hs => ⟨hs.kept hheap how, h.setAt hat (h.winv.stored hheap him hs) (.refl g) (fun c p hcp hp => hs.unch fun e => ?_) ?_⟩⟩
 ·subst e; rw [how] at hcp; simp only [Option.some.injEq] at hcp; exact hp 0 hcp.symm
 ·rw [hval]
  refine .box hgb how hs.here him (by rw [La, Jj _ _ _ hoff, hn]) (fun c hcm => ?_) fun i c hci => ?_
  ·obtain ⟨i, hi, hic⟩ := List.getElem_of_mem hcm
   have hic' : (setCells cs off xs)[i]? = some c := by rw [List.getElem?_eq_getElem hi, hic]
   rw [KL _ _ _ hoff] at hic'
   split at hic'
   ·exact hok c (List.mem_of_getElem? hic')
   ·exact hcok c (List.mem_of_getElem? hic')
  ·rw [O9 _ _ _ _ (by omega)]
   rw [KL _ _ _ hoff] at hci
   have keep : ∀ q v x, Own g w (.slot j t (q + 1)) v x → Own g w' (.slot j t (q + 1)) v x := fun q v x hx => hx.keep fun b' hb' => hs.unch fun e => by
    subst e; rw [how] at hb'; simp only [Option.some.injEq, D4.slot.injEq] at hb'; omega
   by_cases hin : off ≤ i ∧ i < off + xs.length
   ·rw [if_pos hin] at hci
    rw [if_pos (by omega)]
    have := ho (i - off) c hci
    rw [show off + (i - off) + 1 = i + 1 by omega] at this
    exact ⟨hr _ c hci, keep _ _ _ this⟩
   ·rw [if_neg hin] at hci
    rw [if_neg (by omega)]
    exact ⟨(hrep i c hci).1, keep _ _ _ (hrep i c hci).2⟩
theorem RA (vs : Array Value) (i : Nat) : vs.toList.getD i Go.undef = vs.getD i Go.undef := by
 simp [List.getD, Array.getD_eq_getD_getElem?]
theorem ng {z : Nat} {xs : List DV} : (LV.hot z xs).known = some [.hot z xs] := rfl
theorem oL {t : TypeId} {k : Option Nat} {po xo : Operand} {p x : Opd} {o : Oper} (h : AX T g w tss s ts) (hd : dst = none)
  (hk : Ds T.P t = some k) (hp : Av po = some p) (hx : Av xo = some x) (ho : o.op = .store t po xo) (he : evalOp T.LP C gi dst (.store (CJ k) p x) s = some s') :
  B8 T g w tss s s' ts dst gi ((execOp (⟨ts, df⟩ : Act).eval o).run T.P w) := by
 subst hd
 simp only [evalOp] at he
 have hP := h.val (df := df) hp
 split at he
 ·rename_i j t' g' off hval
  rw [hval] at hP
  obtain ⟨b, hv, hgb⟩ := hP.ptr'
  obtain ⟨g1, h1, h2, h3, h4, h5, h6, h7, h8, h9, h10⟩ := h.takeTo (df := df) hx (.slot j t' (off + 1))
  split at he
  ·rename_i cs xs hcs hxs
   split at he
   ·rename_i hc
    simp only [Option.some.injEq] at he
    subst he
    obtain ⟨hn, hoff, hok⟩ := hc
    simp only [List.all_eq_true] at hok
    obtain ⟨hsz, hrep⟩ := h1.known hxs
    obtain ⟨_, i, _, hi, hsi, _⟩ := DK hk
    obtain ⟨b', vs, e, hgb', how, hheap, hvs, hst⟩ := h2.storeBox (off := off) hcs (ws := ((⟨ts, df⟩ : Act).eval xo).cells.toList) (xs := xs) (by simpa using hsz) (by omega) hok
     (fun i c hc => by rw [RA]; exact hrep i c hc) (fun i c hc => by
      rcases h10 with hcold | ⟨z, ys, hz⟩
      ·exact Own.of_cold (XV hxs (EI hcold) ⟨_, h1⟩ c (List.mem_of_getElem? hc))
      ·rw [hz] at hxs h9
       rw [ng] at hxs
       simp only [Option.some.injEq] at hxs
       subst hxs
       cases i with
       | zero =>
        simp only [List.getElem?_cons_zero, Option.some.injEq] at hc
        subst hc
        have hcell : ((⟨ts, df⟩ : Act).eval xo).cells = #[(⟨ts, df⟩ : Act).eval xo] := by
         obtain ⟨_, _, _, hv', _⟩ := h9
         rw [hv']; rfl
        rw [hcell]
        exact h9
       | succ i => simp at hc)
    rw [h6, hgb] at hgb'
    simp only [Option.some.injEq] at hgb'
    subst hgb'
    have hrun := fe (P := T.P) (t := t) hi (b := b) (o := off) (v := (⟨ts, df⟩ : Act).eval xo) hheap (by rw [hsi]; omega) (by omega) (fun u hu => by
     obtain ⟨n, hn', hun⟩ := List.getElem_of_mem hu
     have hlt : n < xs.length := by rw [← hsz]; simpa using hn'
     have := TV (hrep n xs[n] (List.getElem?_eq_getElem hlt)) (hok _ (List.getElem_mem hlt))
     have he' : ((⟨ts, df⟩ : Act).eval xo).cells.getD n Go.undef = u := by rw [← RA]; simp [List.getD, List.getElem?_eq_getElem hn', hun]
     rw [he'] at this; exact this)
    have hS := pP hheap off ((⟨ts, df⟩ : Act).eval xo).cells.toList
    obtain ⟨k1, k2⟩ := hst _ hS
    refine ⟨g1, _, Go.undef, .inr ⟨?_, rfl⟩, h5.trans k1, k2, fun n _ _ => by rw [h6]⟩
    simp only [execOp, ho]
    simp only [Instr.storeAt, hv, Instr.sureAddr, Sem.run_bind, Sem.run_pure, Result.andThen_ok, hrun]
   ·simp at he
  ·simp at he
 ·simp at he
theorem NJ {α : Type} (cs : List α) (off i : Nat) (x : α) : (cs.set off x)[i]? = if off = i ∧ i < cs.length then some x else if off = i then none else cs[i]? := by
 rw [List.getElem?_set]
 by_cases h : off = i
 ·subst h
  by_cases h2 : off < cs.length <;> simp [h2]
 ·simp [h]
theorem AX.coolBox (h : AX T g w tss s ts) {j t gn off : Nat} {cs : List LV} (hc : s.cells j t gn = some cs) {z : Nat} {xs : List DV} (hcell : cs[off]? = some (.hot z xs)) (p : D4) :
  ∃ b vs e g', g.gb gn = some b ∧ w.heap[b]? = some (.cells vs e (0, 0)) ∧ vs.size = cs.length ∧ RE g w g' w ∧ g'.gb = g.gb ∧
   AX T g' w tss (s.setAt j t (.box gn (cs.set off (.d (.slice z xs))))) ts ∧ CL g' (vs.getD off Go.undef) (.hot z xs) ∧ Own g' w p (vs.getD off Go.undef) (.hot z xs) := by
 obtain ⟨hat, b, vs, e, hval, hgb, how, hheap, him, hn, hcok, hrep⟩ := h.cells hc
 obtain ⟨hr, hown⟩ := hrep off _ hcell
 obtain ⟨b2, o2, cap, hv, hb2, hi2, cells, e2, hh2, hcap⟩ := hown
 have hne : b ≠ b2 := fun e => by subst e; rw [how] at hb2; simp at hb2
 have hl := g.own_le b2 p
 refine ⟨b, vs, e, g.own b2 p, hgb, hheap, hn, TE hb2, rfl, h.setAt hat (h.winv.own (h.winv.ow _ _ hb2)) hl (fun c q hcq hq => JF g w b2 p c fun e => ?_) ?_, hr.mono hl,
  ⟨b2, o2, cap, hv, by simp [Gh.own], hi2, cells, e2, hh2, hcap⟩⟩
 ·subst e; rw [hb2] at hcq; simp only [Option.some.injEq] at hcq; exact hq _ hcq.symm
 ·rw [hval]
  refine .box hgb (by simp [Gh.own, hne, how]) hheap him (by simpa using hn) (fun c hcm => ?_) fun i c hci => ?_
  ·rcases List.mem_or_eq_of_mem_set hcm with hm | rfl
   ·exact hcok c hm
   ·rfl
  ·rw [NJ] at hci
   split at hci
   ·rename_i hoi
    obtain ⟨rfl, _⟩ := hoi
    simp only [Option.some.injEq] at hci
    subst hci
    exact ⟨(hr.mono hl).cool, trivial⟩
   ·rename_i hoi
    split at hci
    ·simp at hci
    ·rename_i hne'
     refine ⟨(hrep i c hci).1.mono hl, (hrep i c hci).2.keep fun b' hb' => JF g w b2 p b' fun e => ?_⟩
     subst e
     rw [hb2] at hb'
     simp only [Option.some.injEq, D4.slot.injEq] at hb'
     omega
theorem Z1 {j t : Nat} {sl : BQ} : (s.setAt j t sl).low.length = s.low.length := by
 unfold St.setAt
 split
 ·rfl
 ·simp
theorem fW {j t : Nat} {sl : BQ} : (s.setAt j t sl).ctr = s.ctr := by
 unfold St.setAt
 split <;> rfl
theorem dq {t : TypeId} {po : Operand} {p : Opd} {k : Option Nat} {o : Oper} (h : AX T g w tss s ts) (hd : ∀ d, dst = some d → d < ts.size)
  (hk : Ds T.P t = some k) (hp : Av po = some p) (ho : o.op = .load t po) (he : evalOp T.LP C gi dst (.load k p true) s = some s') :
  B8 T g w tss s s' ts dst gi ((execOp (⟨ts, df⟩ : Act).eval o).run T.P w) := by
 have hfall : evalOp T.LP C gi dst (.load k p false) s = some s' → B8 T g w tss s s' ts dst gi ((execOp (⟨ts, df⟩ : Act).eval o).run T.P w) :=
  fun he => kr h hd hk hp ho he
 have hP := h.val (df := df) hp
 simp only [evalOp] at he hfall
 split at he
 ·rename_i hval; rw [hval] at hfall; exact hfall he
 ·rename_i hval; rw [hval] at hfall; exact hfall he
 ·rename_i j t' g' off hval
  rw [hval] at hP hfall
  simp only at hfall
  obtain ⟨b, hv, hgb⟩ := hP.ptr'
  split at he
  ·rename_i cs hcs
   rw [hcs] at hfall
   split at he
   ·rename_i z xs _ hcell
    obtain ⟨b', vs, e, g1, hgb', hheap, hn, hkept, hgbe, hinv, hrep, hown⟩ := h.coolBox hcs hcell (.slot s.low.length (dst.getD 0) 0)
    rw [hgb] at hgb'
    simp only [Option.some.injEq] at hgb'
    subst hgb'
    have hlt : off < vs.size := by rw [hn]; exact (List.getElem?_eq_some_iff.1 hcell).1
    have hl := RB (P := T.P) hk (b := b) (o := off) (us := fun i => vs.getD (off + i) Go.undef) (w := w) fun j hj => EA hheap (by simp [CJ] at hj; omega)
    refine ⟨g1, w, vs.getD off Go.undef, .inl ?_, hkept, hinv.put he hd hrep fun d hdd => ?_, fun n _ _ => by rw [hgbe]⟩
    ·simp only [execOp, ho, Instr.loadAt, hv, Instr.sureAddr, Sem.run_bind, Sem.run_pure, Result.andThen_ok, hl, qo, Nat.add_zero]
    ·rw [Z1]; subst hdd; exact hown
   ·exact hfall he
  ·simp at he
 ·simp at he
end
end Go.Lf
namespace Go.Lf
open Go
section
variable {T : Tables} {g : Gh} {w : World} {tss : List (Array Value)} {s s' : St} {ts : Array Value} {dst : Option Nat} {gi : Nat} {df : List Deferred} {C : AS}
theorem lE {P : Program} {w : World} {t : TypeId} {k : Option Nat} (hk : Ds P t = some k) {cs : Array Value} {off : Nat} (h : ∀ j, j < CJ k → off + j < cs.size) :
  (Go.part t cs off).run P w = .ok (qo k fun j => cs.getD (off + j) Go.undef) w := by
 obtain ⟨d, i, hu, hi, hs, ha⟩ := DK hk
 unfold Go.part
 simp only [Sem.run_bind, Ov hu, ha, Result.andThen_ok]
 cases k with
 | none =>
  have h0 := h 0 (by simp [CJ])
  have : cs[off]? = some (cs.getD off Go.undef) := by simp [Array.getD, show off < cs.size by omega]
  simp only [Option.isSome_none, Bool.false_eq_true, if_false, this, Sem.run_pure]
  rfl
 | some n =>
  simp only [Option.isSome_some, if_true, Sem.run_bind, DI hi, hs, CJ, Option.getD_some, Result.andThen_ok, Sem.run_pure]
  congr 2
  simp only [CJ, Option.getD_some] at h
  apply Array.ext
  ·simp
   by_cases hn : n = 0
   ·subst hn; simp; omega
   ·have := h (n - 1) (by omega); omega
  ·intro j h1 h2
   simp at h1 h2
   simp [Array.getD, h j h2]
theorem aF {v : Value} {x y : LV} {k : Option Nat} {off : Nat} (h : CL g v x) (hp : K5 k off x = some y) :
  ∃ cs, v = .agg cs ∧ CL g (qo k fun j => cs.getD (off + j) Go.undef) y ∧ y.cold = true ∧ ∀ j, j < CJ k → off + j < cs.size := by
 unfold K5 at hp
 split at hp
 ·rename_i ds
  cases h with
  | d h => cases h with
   | agg vs _ hn hr =>
    simp only [Option.map_eq_some_iff] at hp
    obtain ⟨z, hz, rfl⟩ := hp
    obtain ⟨h1, h2⟩ := eh (us := fun i => vs.getD i Go.undef) hr hz
    exact ⟨vs, rfl, .d h1, rfl, fun j hj => by rw [hn]; exact h2 j hj⟩
 ·rename_i ds
  cases h with
  | agg vs _ hn hh hr =>
   obtain ⟨h1, h3, h2⟩ := Vz (us := fun i => vs.getD i Go.undef) hr hp
   exact ⟨vs, rfl, h1, h3, fun j hj => by rw [hn]; exact h2 j hj⟩
 ·simp at hp
theorem qW {t : TypeId} {fs : Array Field} {f : Nat} {fld : Field} {k : Option Nat} {xo : Operand} {x : Opd} {o : Oper} (h : AX T g w tss s ts) (hd : ∀ d, dst = some d → d < ts.size)
  (hu : T.P.underlying t = some (.struct fs)) (hf : fs[f]? = some fld) (hk : Ds T.P fld.type = some k) (hx : Av xo = some x) (ho : o.op = .field t xo f)
  (he : evalOp T.LP C gi dst (.field k fld.offset x) s = some s') : B8 T g w tss s s' ts dst gi ((execOp (⟨ts, df⟩ : Act).eval o).run T.P w) := by
 simp only [evalOp] at he
 have hX := h.val (df := df) hx
 split at he
 ·rename_i y hy
  obtain ⟨cs, hv, h1, h2, h3⟩ := aF hX hy
  refine BB h hd ?_ he h1 h2
  simp [execOp, ho, Instr.field, Ac hu, hf, hv, asAgg, lE hk h3]
 ·simp at he
theorem Zt {v : Value} {x y : LV} {off : Nat} (h : CL g v x) (hs : Jb off x = some y) :
  ∃ b o, v = .pointer (some ⟨b, o, none⟩) ∧ CL g (.pointer (some ⟨b, o + off, none⟩)) y ∧ y.cold = true := by
 unfold Jb at hs
 split at hs
 ·rename_i cs o
  simp only [Option.some.injEq] at hs
  subst hs
  obtain ⟨b, o', us, hv, hi, hr⟩ := h.fptrD
  exact ⟨b, o' + o, hv, by rw [Nat.add_assoc]; exact .d (.fptr b o' _ cs us hi hr), rfl⟩
 ·rename_i cs o
  simp only [Option.some.injEq] at hs
  subst hs
  obtain ⟨b, o', us, hv, hh, hi, hr⟩ := h.fptrL
  exact ⟨b, o' + o, hv, by rw [Nat.add_assoc]; exact .fptr b o' _ cs us hh hi hr, rfl⟩
 ·simp only [Option.some.injEq] at hs
  subst hs
  obtain ⟨b, hv, hg⟩ := h.ptr'
  exact ⟨b, _, hv, .ptr hg, rfl⟩
 ·simp at hs
theorem qC {t : TypeId} {fs : Array Field} {f : Nat} {off n : Nat} {xo : Operand} {x : Opd} {o : Oper} (h : AX T g w tss s ts) (hd : ∀ d, dst = some d → d < ts.size)
  (hu : T.P.underlying t = some (.struct fs)) (hf : aZ T.P fs f = some (off, n)) (hn : n ≠ 0) (hx : Av xo = some x) (ho : o.op = .fieldAddr t xo f)
  (he : evalOp T.LP C gi dst (.faddr off x) s = some s') : B8 T g w tss s s' ts dst gi ((execOp (⟨ts, df⟩ : Act).eval o).run T.P w) := by
 unfold aZ at hf
 split at hf
 ·rename_i fld hfld
  simp only [Option.map_eq_some_iff, Prod.mk.injEq] at hf
  obtain ⟨k, hk, rfl, rfl⟩ := hf
  obtain ⟨d, i, hu', hi, hs, ha⟩ := DK hk
  simp only [evalOp] at he
  have hX := h.val (df := df) hx
  split at he
  ·rename_i y hy
   obtain ⟨b, o', hv, hr, hc⟩ := Zt hX hy
   refine BB h hd ?_ he hr hc
   simp [execOp, ho, Instr.fieldAt, Ac hu, hfld, hv, Instr.sureAddr, fieldPlace, DI hi, hs, hn, IV]
  ·simp at he
 ·simp at hf
theorem oM {t e : TypeId} {n : Nat} {k : Option Nat} {xo io : Operand} {x i : Opd} {o : Oper} (h : AX T g w tss s ts) (hd : ∀ d, dst = some d → d < ts.size)
  (hu : T.P.underlying t = some (.array n e)) (hk : Ds T.P e = some k) (hx : Av xo = some x) (hi : Av io = some i) (ho : o.op = .index t xo io)
  (he : evalOp T.LP C gi dst (.index k (CJ k) n x i) s = some s') : B8 T g w tss s s' ts dst gi ((execOp (⟨ts, df⟩ : Act).eval o).run T.P w) := by
 simp only [evalOp] at he
 have hX := h.val (df := df) hx
 have hI := h.val (df := df) hi
 obtain ⟨d, ie, hu', hie, hs, ha⟩ := DK hk
 split at he
 ·rename_i m hm
  have hmv := hI.nat hm
  split at he
  ·rename_i hlt
   split at he
   ·rename_i y hy
    obtain ⟨cs, hv, h1, h2, h3⟩ := aF hX hy
    refine BB h hd ?_ he h1 h2
    simp [execOp, ho, Instr.index, asIntOf, hmv, Ac hu, hv, hlt, DI hie, hs, lE hk h3]
   ·simp at he
  ·simp at he
 ·simp at he
theorem nb {t e : TypeId} {n : Nat} {k : Option Nat} {xo io : Operand} {x i : Opd} {o : Oper} (h : AX T g w tss s ts) (hd : ∀ d, dst = some d → d < ts.size)
  (hu : T.P.underlying t = some (.array n e)) (hk : Ds T.P e = some k) (hx : Av xo = some x) (hi : Av io = some i) (ho : o.op = .indexAddr t xo io)
  (he : evalOp T.LP C gi dst (.iaddrA (CJ k) n x i) s = some s') : B8 T g w tss s s' ts dst gi ((execOp (⟨ts, df⟩ : Act).eval o).run T.P w) := by
 simp only [evalOp] at he
 have hX := h.val (df := df) hx
 have hI := h.val (df := df) hi
 obtain ⟨d, ie, hu', hie, hs, ha⟩ := DK hk
 split at he
 ·rename_i m hm
  have hmv := hI.nat hm
  split at he
  ·rename_i hlt
   split at he
   ·rename_i y hy
    obtain ⟨b, o', hv, hr, hc⟩ := Zt hX hy
    refine BB h hd ?_ he hr hc
    simp [execOp, ho, Instr.indexAt, asIntOf, hmv, Ac hu, hv, Instr.sureAddr, hlt, DI hie, hs, IV]
   ·simp at he
  ·simp at he
 ·simp at he
theorem Jn {v : Value} {x : LV} {z : Nat} {xs : List DV} (h : CL g v x) (he : Og x = some (z, xs)) : DX g.im g.fm v (.slice z xs) := by
 unfold Og at he
 split at he <;> simp only [Option.some.injEq, Prod.mk.injEq, reduceCtorEq] at he
 ·obtain ⟨rfl, rfl⟩ := he; cases h with | d h => exact h
 ·obtain ⟨rfl, rfl⟩ := he; cases h with | hot h => exact h
 ·obtain ⟨rfl, rfl⟩ := he; cases h with | full h => exact h
theorem Ib {v : Value} {z : Nat} {xs : List DV} (h : DX g.im g.fm v (.slice z xs)) : ∃ (b o : Nat) (sp : Option Nat) (cap : Nat) (us : Nat → Value), v = .slice (some ⟨b, o, sp⟩) xs.length cap ∧ (0 < cap → sp = none) ∧ xs.length ≤ cap ∧
  (∀ x, x ∈ xs → x.cells.length = z) ∧ (∀ i, i < xs.length * z → g.im b (o + i) = some (us i)) ∧ ∀ i c, (xs.flatMap DV.cells)[i]? = some c → DX g.im g.fm (us i) c := by
 cases h with
 | slice b o cap _ _ us hc hz hi hr => exact ⟨b, o, none, cap, us, rfl, fun _ => rfl, hc, hz, hi, hr⟩
 | gone b o sp z => exact ⟨b, o, some sp, 0, fun _ => Go.undef, rfl, by simp, by simp, by simp, by simp, by simp⟩
theorem MB {xs : List DV} {z : Nat} (h : ∀ x, x ∈ xs → x.cells.length = z) : (xs.flatMap DV.cells).length = xs.length * z := by
 induction xs with
 | nil => simp
 | cons x r ih =>
  simp only [List.flatMap_cons, List.length_append, List.length_cons, Nat.add_mul, Nat.one_mul]
  rw [ih fun y hy => h y (by simp [hy]), h x (by simp)]
  omega
theorem iw {z : Nat} : ∀ {xs : List DV}, (∀ x, x ∈ xs → x.cells.length = z) → ∀ {i j : Nat} {e c : DV}, xs[i]? = some e → e.cells[j]? = some c → (xs.flatMap DV.cells)[i * z + j]? = some c
 | [], _, i, j, e, c, he, _ => by simp at he
 | x :: r, h, 0, j, e, c, he, hc => by
  simp only [List.getElem?_cons_zero, Option.some.injEq] at he
  subst he
  simp only [List.flatMap_cons, Nat.zero_mul, Nat.zero_add]
  rw [List.getElem?_append_left (List.getElem?_eq_some_iff.1 hc).1]
  exact hc
 | x :: r, h, i + 1, j, e, c, he, hc => by
  simp only [List.getElem?_cons_succ] at he
  have := iw (xs := r) (fun y hy => h y (by simp [hy])) he hc
  have hx := h x (by simp)
  simp only [List.flatMap_cons]
  rw [List.getElem?_append_right (by rw [hx, Nat.add_mul]; omega), hx]
  rw [show (i + 1) * z + j - z = i * z + j by rw [Nat.add_mul]; omega]
  exact this
theorem nO {v : Value} {z : Nat} {xs : List DV} (h : DX g.im g.fm v (.slice z xs)) {i : Nat} {e : DV} (he : xs[i]? = some e) :
  ∃ b o cap, v = .slice (some ⟨b, o, none⟩) xs.length cap ∧ DX g.im g.fm (.pointer (some ⟨b, o + i * z, none⟩)) (.fptr e.cells 0) ∧ i < xs.length := by
 obtain ⟨b, o, sp, cap, us, hv, hsp, hc, hz, hi, hr⟩ := Ib h
 have hlt := (List.getElem?_eq_some_iff.1 he).1
 obtain rfl := hsp (by omega)
 have hez := hz e (List.mem_of_getElem? he)
 refine ⟨b, o, cap, hv, ?_, hlt⟩
 have := DX.fptr (im := g.im) (fm := g.fm) b (o + i * z) 0 e.cells (fun j => us (i * z + j)) (fun j hj => ?_) fun j c hc => hr _ _ (iw hz he hc)
 ·simpa using this
 ·rw [Nat.add_assoc]
  apply hi
  have : (i + 1) * z ≤ xs.length * z := Nat.mul_le_mul_right z (by omega)
  rw [Nat.add_mul] at this
  omega
theorem mT {t e : TypeId} {k : Option Nat} {xo io : Operand} {x i : Opd} {o : Oper} (h : AX T g w tss s ts) (hd : ∀ d, dst = some d → d < ts.size)
  (hu : T.P.underlying t = some (.slice e)) (hk : Ds T.P e = some k) (hx : Av xo = some x) (hi : Av io = some i) (ho : o.op = .indexAddr t xo io)
  (he : evalOp T.LP C gi dst (.iaddrS (CJ k) x i) s = some s') : B8 T g w tss s s' ts dst gi ((execOp (⟨ts, df⟩ : Act).eval o).run T.P w) := by
 simp only [evalOp] at he
 have hX := h.val (df := df) hx
 have hI := h.val (df := df) hi
 obtain ⟨d, ie, hu', hie, hs, ha⟩ := DK hk
 split at he
 ·rename_i z xs m hxs hm
  have hmv := hI.nat hm
  split at he
  ·rename_i el hel
   split at he
   ·rename_i hz
    subst hz
    obtain ⟨b, o', cap, hv, hr, hlt⟩ := nO (Jn hX hxs) hel
    refine BB h hd ?_ he (.d hr) rfl
    simp [execOp, ho, Instr.indexAt, asIntOf, hmv, Ac hu, hv, hlt, DI hie, hs, IV]
   ·simp at he
  ·simp at he
 ·simp at he
theorem CL.dinv {v : Value} {x : DV} (h : CL g v (.d x)) : DX g.im g.fm v x := by
 cases h with | d h => exact h
theorem Sz {v : Value} (h : DX g.im g.fm v .nils) : v = .slice none 0 0 := by cases h; rfl
theorem uF {t : TypeId} {e : TypeId} {xo : Operand} {x : Opd} {o : Oper} {c : Call} (h : AX T g w tss s ts) (hd : ∀ d, dst = some d → d < ts.size)
  (hu : T.P.underlying t = some (.slice e)) (hx : Av xo = some x) (ho : o.op = .call c) (hc : c.callee = .builtin .len) (ha : c.args = #[xo]) (hat : c.argTypes[0]? = some t)
  (he : evalOp T.LP C gi dst (.len x) s = some s') : B8 T g w tss s s' ts dst gi ((execOp (⟨ts, df⟩ : Act).eval o).run T.P w) := by
 simp only [evalOp] at he
 have hX := h.val (df := df) hx
 split at he
 ·rename_i n hn
  have hlen : ∃ a cap, (⟨ts, df⟩ : Act).eval xo = .slice a n cap := by
   unfold jb at hn
   split at hn
   ·rename_i hval
    rw [hval] at hX
    simp only [Option.some.injEq] at hn
    subst hn
    exact ⟨none, 0, Sz hX.dinv⟩
   ·simp only [Option.map_eq_some_iff] at hn
    obtain ⟨p, hp, rfl⟩ := hn
    obtain ⟨b, o', sp, cap, us, hv, _⟩ := Ib (Jn hX hp)
    exact ⟨_, cap, hv⟩
  obtain ⟨a, cap, hv⟩ := hlen
  refine BB h hd (v := .int .i64 n) ?_ he (.d (.int _)) rfl
  simp [execOp, ho, resolve, hc, ha, invoke, builtin, Builtin.len_, hat, Ac hu, hv, goInt]
 ·simp at he
end
end Go.Lf
