/- A part of the proof. -/
import Derived.Test.YtbkliocalcihjaaDoorx9
set_option linter.all false
namespace Go.Lf
open Go
theorem EA.v_inv {g : Gh} {w : World} {j t : Nat} {v : Value} {x : LV} (h : EA g w j t v (.v x)) : Bm g v x ∧ GK g w j t v x := by
 cases h with
 | v h ho => exact ⟨h, ho⟩
def Gh.own (g : Gh) (b : Nat) (p : DR) : Gh := { g with ow := fun c => if c = b then some p else g.ow c }
theorem Gh.own_le (g : Gh) (b : Nat) (p : DR) : g.Le (g.own b p) := ⟨fun _ _ _ h => h, fun _ _ h => h, fun _ _ h => h, fun _ _ h => h⟩
theorem IU (g : Gh) (w : World) (b : Nat) (p : DR) (c : Nat) (h : c ≠ b) : NQ g w (g.own b p) w c :=
 ⟨rfl, fun _ => rfl, rfl, by simp [Gh.own, h]⟩
section
variable {T : Tables} {g : Gh} {w : World} {tss : List (Array Value)} {s s' : St} {ts : Array Value} {dst : Option Nat} {gi : Nat} {df : List Deferred} {C : AM}
theorem I2.own {c : Nat} (h : I2 T g w c) {b : Nat} {p : DR} (hb : b < w.heap.size) : I2 T (g.own b p) w c :=
 ⟨h.im, h.one, h.fm, fun c p' hc => by
  simp only [Gh.own] at hc
  split at hc
  ·subst_vars; exact hb
  ·exact h.ow _ _ hc, h.gb, h.lp, h.ctr, h.globs⟩
theorem AV.reown (h : AV T g w tss s ts) {b x i : Nat} {p : DR} (ho : g.ow b = some (.slot s.low.length x i)) (hx : ∀ sl, s.env.get x = some sl → ∃ c : LV, sl = .v c ∧ c.cold = true) :
  AV T (g.own b p) w tss s ts := by
 refine ⟨h.winv.own (h.winv.ow _ _ ho), h.stack.keep (g.own_le b p) fun c q hc hq => IU g w b p c fun e => ?_, fun t sl hs => ?_⟩
 ·subst e; rw [ho] at hc; simp only [Option.some.injEq] at hc; subst hc; simp [DR.level] at hq
 ·by_cases ht : t = x
  ·subst ht
   obtain ⟨c, rfl, hc⟩ := hx sl hs
   have hr := (h.env t _ hs).v_inv.1
   exact .v (hr.mono (g.own_le b p)) (GK.of_cold (hr.mono (g.own_le b p)) hc)
  ·refine (h.env t sl hs).keep (g.own_le b p) fun c i hc => IU g w b p c fun e => ?_
   subst e
   rw [ho] at hc
   simp only [Option.some.injEq, DR.slot.injEq] at hc
   exact ht hc.2.1.symm
theorem O6 {b : Nat} {p q : DR} (ho : g.ow b = some q) : N7 g w (g.own b p) w :=
 ⟨g.own_le b p, fun c _ hc => IU g w b p c fun e => by subst e; rw [ho] at hc; simp at hc, Nat.le_refl _, rfl, rfl, rfl, fun _ => rfl⟩
theorem AV.take (h : AV T g w tss s ts) {xo : Operand} {x : Opd} (hx : As xo = some x) :
  Bm g ((⟨ts, df⟩ : Act).eval xo) (s.take T.LP x).1 ∧ AV T g w tss (s.take T.LP x).2 ts ∧ (s.take T.LP x).2.low = s.low ∧ (s.take T.LP x).2.ctr = s.ctr ∧
   (((s.take T.LP x).1.cold = true ∧ (s.take T.LP x).2 = s) ∨
    (∃ t z xs, x = .tmp t ∧ (s.take T.LP x).1 = .hot z xs ∧ (s.take T.LP x).2.env.get t = some (.v (.d (.slice z xs))) ∧ (∀ u, u ≠ t → (s.take T.LP x).2.env.get u = s.env.get u) ∧
     zu g w (.slot s.low.length t 0) ((⟨ts, df⟩ : Act).eval xo) (.hot z xs))) := by
 have hv := h.val (df := df) hx
 unfold St.take
 cases x with
 | tmp t =>
  have hxo : (⟨ts, df⟩ : Act).eval xo = ts.getD t Go.undef := by
   cases xo <;> simp only [As, Option.some.injEq, Option.map_eq_some_iff, reduceCtorEq, and_false, exists_false, Opd.tmp.injEq] at hx
   subst hx; rfl
  simp only
  split
  ·rename_i z xs he
   obtain ⟨hr, ho⟩ := (h.env t _ he).v_inv
   refine ⟨by rw [hxo]; exact hr, ⟨h.winv, h.stack, fun u sl hs => ?_⟩, rfl, rfl, .inr ⟨t, z, xs, rfl, rfl, by simp [EE], fun u hu => by simp [EE, hu], by rw [hxo]; exact ho⟩⟩
   simp only [EE] at hs
   split at hs
   ·rename_i e; subst e; simp only [Option.some.injEq] at hs; subst hs; exact .v hr.cool trivial
   ·exact h.env u sl hs
  ·exact ⟨hv, h, rfl, rfl, .inl ⟨R9 s t, rfl⟩⟩
 | con v => exact ⟨hv, h, rfl, rfl, .inl ⟨rfl, rfl⟩⟩
 | glob n => exact ⟨hv, h, rfl, rfl, .inl ⟨rfl, rfl⟩⟩
theorem AV.takeTo (h : AV T g w tss s ts) {xo : Operand} {x : Opd} (hx : As xo = some x) (p : DR) :
  ∃ g', Bm g' ((⟨ts, df⟩ : Act).eval xo) (s.take T.LP x).1 ∧ AV T g' w tss (s.take T.LP x).2 ts ∧ (s.take T.LP x).2.low = s.low ∧ (s.take T.LP x).2.ctr = s.ctr ∧
   N7 g w g' w ∧ g'.gb = g.gb ∧ g'.im = g.im ∧ g'.fm = g.fm ∧ zu g' w p ((⟨ts, df⟩ : Act).eval xo) (s.take T.LP x).1 ∧
   ((s.take T.LP x).1.cold = true ∨ ∃ z xs, (s.take T.LP x).1 = .hot z xs) := by
 obtain ⟨h1, h2, h3, h4, h5⟩ := h.take (df := df) hx
 rcases h5 with ⟨hc, hs⟩ | ⟨t, z, xs, rfl, hhot, hbot, _, ho⟩
 ·exact ⟨g, h1, h2, h3, h4, .refl g w, rfl, rfl, rfl, zu.of_cold (Dt hc), .inl hc⟩
 ·rw [hhot] at h1 ⊢
  obtain ⟨b, o, cap, hv, hb, hi, cells, e, hh, hcap⟩ := ho
  have hre := h2.reown (p := p) (b := b) (x := t) (i := 0) (by rw [h3]; exact hb) fun sl hs => by rw [hbot] at hs; simp only [Option.some.injEq] at hs; subst hs; exact ⟨_, rfl, rfl⟩
  exact ⟨g.own b p, h1.mono (g.own_le b p), hre, h3, h4, O6 hb, rfl, rfl, rfl, ⟨b, o, cap, hv, by simp [Gh.own], hi, cells, e, hh, hcap⟩, .inr ⟨z, xs, rfl⟩⟩
theorem Zw {j t : Nat} {v : Value} {x : LV} (h : zu g w (.slot j t 0) v x) (hx : x.cold = true ∨ ∃ z xs, x = .hot z xs) (hr : Bm g v x) : GK g w j t v x := by
 rcases hx with hc | ⟨z, xs, rfl⟩
 ·exact GK.of_cold hr hc
 ·exact h
theorem QK {xo : Operand} {x : Opd} {o : Oper} (h : AV T g w tss s ts) (hd : ∀ d, dst = some d → d < ts.size) (hx : As xo = some x)
  (ho : o.op = .move xo ∨ o.op = .assign xo) (he : evalOp T.LP C gi dst (.move x true) s = some s') :
  Bd T g w tss s s' ts dst gi ((execOp (⟨ts, df⟩ : Act).eval o).run T.P w) := by
 simp only [evalOp] at he
 obtain ⟨g', h1, h2, h3, h4, h5, h6, h7, h8, h9, h10⟩ := h.takeTo (df := df) hx (.slot s.low.length (dst.getD 0) 0)
 refine ⟨g', w, (⟨ts, df⟩ : Act).eval xo, .inl ?_, h5, h2.put he hd h1 fun d hdd => ?_, fun n _ _ => by rw [h6]⟩
 ·rcases ho with ho | ho <;> simp only [execOp, ho] <;> rfl
 ·rw [h3]
  subst hdd
  exact Zw h9 h10 h1
theorem AV.setAt (h : AV T g w tss s ts) {g' : Gh} {w' : World} {j t : Nat} {sl0 sl : A6} (hs : s.at j t = some sl0) (hw : I2 T g' w' s.ctr) (hl : g.Le g')
  (hk : ∀ b p, g.ow b = some p → (∀ i, p ≠ .slot j t i) → NQ g w g' w' b) (hr : EA g' w' j t ((qO tss s.low.length ts j).getD t Go.undef) sl) :
  AV T g' w' tss (s.setAt j t sl) ts := by
 unfold St.setAt
 unfold St.at at hs
 unfold qO at hr
 split
 ·rename_i hj
  subst hj
  rw [if_pos rfl] at hr
  refine ⟨hw, h.stack.keep hl fun b p hb hp => hk b p hb fun i e => by subst e; simp [DR.level] at hp, fun u su hu => ?_⟩
  simp only [EE] at hu
  split at hu
  ·rename_i hut; subst hut; simp only [Option.some.injEq] at hu; subst hu; exact hr
  ·rename_i hut
   exact (h.env u su hu).keep hl fun b i hb => hk b _ hb fun i' e => by simp only [DR.slot.injEq] at e; exact hut e.2.1
 ·rename_i hj
  rw [if_neg hj] at hs hr
  split at hs
  ·rename_i fr hfr
   have hjl : j < s.low.length := (List.getElem?_eq_some_iff.1 hfr).1
   refine ⟨hw, ⟨by simpa using h.stack.len, fun j' ts' fr' h1 h2 => ?_⟩, fun u su hu => ?_⟩
   ·by_cases hjj : j = j'
    ·subst hjj
     simp [hfr] at h2
     subst h2
     have hf := h.stack.fr j ts' fr h1 hfr
     have hts : tss.getD j #[] = ts' := by simp [List.getD, h1]
     rw [hts] at hr
     refine ⟨fun u su hu => ?_, fun r hr' => (hf.loop r hr').keep hl fun b hb => hk b _ hb fun i e => by simp at e⟩
     simp only [EE] at hu
     split at hu
     ·rename_i hut; subst hut; simp only [Option.some.injEq] at hu; subst hu; exact hr
     ·rename_i hut
      exact (hf.env u su hu).keep hl fun b i hb => hk b _ hb fun i' e => by simp only [DR.slot.injEq] at e; exact hut e.2.1
    ·have h2' : s.low[j']? = some fr' := by simpa [List.getElem?_modify, hjj] using h2
     exact (h.stack.fr j' ts' fr' h1 h2').keep hl fun b p hb hp => hk b p hb fun i e => by subst e; exact hjj (by simpa [DR.level] using hp)
   ·simp only [List.length_modify]
    exact (h.env u su hu).keep hl fun b i hb => hk b _ hb fun i' e => by simp only [DR.slot.injEq] at e; exact hj e.1.symm
  ·simp at hs
theorem xp {LP : Aw} {x : Opd} : (s.take LP x).2.low.length = s.low.length := by
 unfold St.take
 cases x with
 | tmp t => simp only; split <;> rfl
 | _ => rfl
end
end Go.Lf
namespace Go.Lf
open Go
def Gh.fresh (g : Gh) (b : Nat) (p : DR) (gn : Option Nat) : Gh :=
 { g with ow := fun c => if c = b then some p else g.ow c, gb := fun n => if gn = some n then some b else g.gb n }
def World.push (w : World) (o : Obj) : World := { w with heap := w.heap.push o }
theorem Hk {w : World} {o : Obj} {b : Nat} (h : b < w.heap.size) : (World.push w o).heap[b]? = w.heap[b]? := by
 simp only [World.push, Array.getElem?_push]
 rw [if_neg (by omega)]
theorem K0 {w : World} {o : Obj} : (World.push w o).heap[w.heap.size]? = some o := Array.getElem?_push_size
theorem Eb {w : World} {o : Obj} : (World.push w o).heap.size = w.heap.size + 1 := by simp [World.push]
theorem ij {w : World} {a : Addr} {v : Value} (h : w.cell? a = some v) : a.block < w.heap.size := by
 unfold World.cell? at h
 split at h
 ·rename_i hh; exact (Array.getElem?_eq_some_iff.1 hh).1
 ·simp at h
theorem Ej {w w' : World} {a : Addr} (h : w'.heap[a.block]? = w.heap[a.block]?) : w'.cell? a = w.cell? a := by
 unfold World.cell?; rw [h]
section
variable {T : Tables} {g : Gh} {w : World} {tss : List (Array Value)} {s s' : St} {ts : Array Value} {dst : Option Nat} {gi : Nat} {df : List Deferred} {C : AM}
theorem I2.im_fresh {c : Nat} (h : I2 T g w c) {b : Nat} (hb : w.heap.size ≤ b) (i : Nat) : g.im b i = none := by
 cases hi : g.im b i with
 | none => rfl
 | some u => have := ij (h.im _ _ _ hi); simp only at this; omega
theorem I2.fm_fresh {c : Nat} (h : I2 T g w c) {b : Nat} (hb : w.heap.size ≤ b) : g.fm b = none := by
 cases hi : g.fm b with
 | none => rfl
 | some u => obtain ⟨c, hc⟩ := h.fm _ _ hi; have := (Array.getElem?_eq_some_iff.1 hc).1; omega
theorem I2.ow_fresh {c : Nat} (h : I2 T g w c) {b : Nat} (hb : w.heap.size ≤ b) : g.ow b = none := by
 cases hi : g.ow b with
 | none => rfl
 | some u => have := h.ow _ _ hi; omega
theorem TP {b : Nat} {p : DR} {gn : Option Nat} (hg : ∀ n, gn = some n → g.gb n = none) : g.Le (g.fresh b p gn) :=
 ⟨fun _ _ _ h => h, fun _ _ h => h, fun n c h => by
  simp only [Gh.fresh]
  split
  ·rename_i e; rw [hg n e] at h; simp at h
  ·exact h, fun _ _ h => h⟩
theorem Qx {o : Obj} {p : DR} {gn : Option Nat} {b : Nat} (hb : b < w.heap.size) : NQ g w (g.fresh w.heap.size p gn) (World.push w o) b :=
 ⟨Hk hb, fun _ => rfl, rfl, by simp only [Gh.fresh]; rw [if_neg (by omega)]⟩
theorem I2.fresh {c : Nat} (h : I2 T g w c) (o : Obj) (p : DR) {gn : Option Nat} (hg : ∀ n, gn = some n → n < c ∧ g.gb n = none) :
  I2 T (g.fresh w.heap.size p gn) (World.push w o) c where
 im b i u hi := by
  have := h.im b i u hi
  rw [Ej (Hk (ij this))]; exact this
 one := h.one
 fm b es hf := by
  obtain ⟨c, hc⟩ := h.fm b es hf
  exact ⟨c, by rw [Hk (Array.getElem?_eq_some_iff.1 hc).1]; exact hc⟩
 ow b q hb := by
  simp only [Gh.fresh] at hb
  rw [Eb]
  split at hb
  ·omega
  ·have := h.ow b q hb; omega
 gb n b hb := by
  simp only [Gh.fresh] at hb
  rw [Eb]
  split at hb
  ·simp only [Option.some.injEq] at hb; omega
  ·have := h.gb n b hb; omega
 ctr n hn := by
  simp only [Gh.fresh]
  split
  ·rename_i e; have := (hg n e).1; omega
  ·exact h.ctr n hn
 lp b d hb := by
  obtain ⟨r, hr, hd⟩ := h.lp b d hb
  exact ⟨r, by rw [Hk (Array.getElem?_eq_some_iff.1 hr).1]; exact hr, hd⟩
 globs n := (h.globs n)
theorem VK {w : World} {o : Obj} (ho : iE (some o) = (0, 0)) (b : Nat) : Qg (World.push w o) b = Qg w b := by
 unfold Qg
 by_cases hb : b < w.heap.size
 ·rw [Hk hb]
 ·have hn : w.heap[b]? = none := Array.getElem?_eq_none (by omega)
  rw [hn]
  by_cases hb2 : b = w.heap.size
  ·subst hb2; rw [K0, ho]; rfl
  ·have : (World.push w o).heap[b]? = none := Array.getElem?_eq_none (by rw [Eb]; omega)
   rw [this]
theorem ZV {c : Nat} (h : I2 T g w c) (o : Obj) (ho : iE (some o) = (0, 0)) (p : DR) {gn : Option Nat} (hg : ∀ n, gn = some n → n < c ∧ g.gb n = none) :
  N7 g w (g.fresh w.heap.size p gn) (World.push w o) :=
 ⟨TP fun n e => (hg n e).2, fun b hb _ => Qx hb, by rw [Eb]; omega, rfl, rfl, rfl, VK ho⟩
theorem AV.fresh (h : AV T g w tss s ts) (o : Obj) (p : DR) {gn : Option Nat} (hg : ∀ n, gn = some n → n < s.ctr ∧ g.gb n = none) :
  AV T (g.fresh w.heap.size p gn) (World.push w o) tss s ts :=
 h.move (h.winv.fresh o p hg) (TP fun n e => (hg n e).2) fun b _ hb => Qx (h.winv.ow _ _ hb)
theorem AV.setSlot (h : AV T g w tss s ts) {d : Nat} (hd : d < ts.size) {v : Value} {sl : A6} (hr : EA g w s.low.length d v sl) :
  AV T g w tss { s with env := s.env.set d sl } (gB ts (some d) v) := by
 refine ⟨h.winv, h.stack, fun t sl' hs => ?_⟩
 simp only [EE] at hs
 by_cases ht : t = d
 ·subst ht
  rw [if_pos rfl] at hs
  simp only [Option.some.injEq] at hs
  subst hs
  rw [gB, LE _ _ _ hd]
  exact hr
 ·rw [if_neg ht] at hs
  rw [gB, K8 _ _ _ _ ht]
  exact h.env t sl' hs
theorem ZA {v : Value} {d : DV} (h : cv1 v = some d) : (LV.d d).cellOk = true := by
 unfold cv1 at h
 split at h <;> first
  | (simp only [Option.some.injEq] at h; subst h; rfl)
  | (simp at h; done)
theorem ZX : ∀ {vs : List Value} {ds : List DV}, cvs vs = some ds → ∀ d, d ∈ ds → (LV.d d).cellOk = true
 | [], ds, h => by simp only [cvs, Option.some.injEq] at h; subst h; simp
 | x :: r, ds, h => by
  simp only [cvs] at h
  split at h
  ·rename_i y ys hy hys
   simp only [Option.some.injEq] at h
   subst h
   intro d hd
   cases hd with
   | head => exact ZA hy
   | tail _ hd => exact ZX hys d hd
  ·simp at h
theorem HY {P : Program} {t : TypeId} {zs : List DV} (h : zeroCells P t = some zs) : ∃ k i v, DC P t = some k ∧ P.info? t = some i ∧ i.zero = some v ∧ zs.length = Bl k ∧
  v.cells.size = zs.length ∧ (∀ z, z ∈ zs → (LV.d z).cellOk = true) ∧ ∀ im fm (n : Nat) (c : DV), zs[n]? = some c → Cd im fm (v.cells.getD n Go.undef) c := by
 unfold zeroCells at h
 split at h
 ·rename_i k z hk hz
  split at h
  ·rename_i hl
   simp only [Option.some.injEq] at h
   subst h
   unfold SC at hz
   split at hz
   ·rename_i i hi
    split at hz
    ·rename_i v hv
     refine ⟨k, i, v, hk, hi, hv, hl, ?_⟩
     unfold cv at hz
     split at hz
     ·rename_i cs
      simp only [Option.map_eq_some_iff] at hz
      obtain ⟨ds, hds, rfl⟩ := hz
      refine ⟨by have := (Cd.cvs (im := fun _ _ => none) (fm := fun _ => none) hds).1; simpa [Value.cells, DV.cells] using this, ZX hds, fun im fm n c hc => ?_⟩
      obtain ⟨v', hv', hr⟩ := (Cd.cvs (im := im) (fm := fm) hds).2 n c hc
      simp only [Array.getElem?_toList] at hv'
      simp only [Value.cells]
      rw [Array.getD_eq_getD_getElem?, hv']
      exact hr
     ·rename_i hna
      have hcells : z.cells = [z] := by
       unfold cv1 at hz
       split at hz <;> first
        | (simp only [Option.some.injEq] at hz; subst hz; rfl)
        | (simp at hz; done)
      have hvc : v.cells = #[v] := by
       cases v <;> first | rfl | exact absurd rfl (hna _)
      rw [hcells, hvc]
      refine ⟨rfl, fun z' hz' => ?_, fun im fm n c hc => ?_⟩
      ·simp only [List.mem_singleton] at hz'; subst hz'; exact ZA hz
      ·cases n with
       | zero => simp only [List.getElem?_cons_zero, Option.some.injEq] at hc; subst hc; exact Cd.cv1 hz
       | succ n => simp at hc
    ·simp at hz
   ·simp at hz
  ·simp at h
 ·simp at h
theorem qI {x : LV} : x.isHot = false ∨ x.isHot = true := by cases x.isHot <;> simp
theorem sP (h : AV T g w tss s ts) {d : Nat} (hd : d < ts.size) (hgi : gi < s.ctr) (hg : g.gb gi = none) {cs : List LV} {vs : Array Value} {e : TypeId}
  (hn : vs.size = cs.length) (hk : ∀ c, c ∈ cs → c.cellOk = true) (hh : ∀ c, c ∈ cs → c.isHot = false) (hr : ∀ i c, cs[i]? = some c → Bm g (vs.getD i Go.undef) c)
  {r : Result Next} (hrun : r = .ok (.value (.pointer (some ⟨w.heap.size, 0, none⟩))) (World.push w (.cells vs e))) :
  Bd T g w tss s { s with env := s.env.set d (.box gi cs) } ts (some d) gi r := by
 have hgn : ∀ n, some gi = some n → n < s.ctr ∧ g.gb n = none := fun n e => by simp only [Option.some.injEq] at e; subst e; exact ⟨hgi, hg⟩
 have hl : g.Le (g.fresh w.heap.size (.slot s.low.length d 0) (some gi)) := TP fun n e => (hgn n e).2
 refine ⟨g.fresh w.heap.size (.slot s.low.length d 0) (some gi), World.push w (.cells vs e), _, .inl hrun, ZV h.winv _ rfl _ hgn, (h.fresh _ _ hgn).setSlot hd ?_, fun n _ hne => ?_⟩
 ·refine .box (by simp [Gh.fresh]) (by simp [Gh.fresh]) K0 (fun i => ?_) hn hk fun i c hc => ⟨(hr i c hc).mono hl, zu.of_cold (hh c (List.mem_of_getElem? hc))⟩
  exact h.winv.im_fresh (Nat.le_refl _) i
 ·simp only [Gh.fresh, Option.some.injEq]
  rw [if_neg (fun e => hne e.symm)]
theorem oQ {t : TypeId} {zs : List DV} {o : Oper} (h : AV T g w tss s ts) (hd : ∀ d, dst = some d → d < ts.size) (hgi : gi < s.ctr) (hg : g.gb gi = none)
  (hz : zeroCells T.P t = some zs) (ho : o.op = .alloc t) (he : evalOp T.LP C gi dst (.alloc zs) s = some s') :
  Bd T g w tss s s' ts dst gi ((execOp (⟨ts, df⟩ : Act).eval o).run T.P w) := by
 simp only [evalOp] at he
 split at he
 ·rename_i d
  simp only [Option.some.injEq] at he
  subst he
  obtain ⟨k, i, v, hk, hi, hv, hl, hn, hok, hr⟩ := HY hz
  refine sP h (hd _ rfl) hgi hg (vs := v.cells) (e := t) (by simpa using hn) ?_ ?_ ?_ ?_
  ·intro c hc
   simp only [List.mem_map] at hc
   obtain ⟨z, hz, rfl⟩ := hc
   exact hok z hz
  ·intro c hc
   simp only [List.mem_map] at hc
   obtain ⟨z, hz, rfl⟩ := hc
   rfl
  ·intro n c hc
   simp only [List.getElem?_map, Option.map_eq_some_iff] at hc
   obtain ⟨z, hz, rfl⟩ := hc
   exact .d (hr _ _ n z hz)
  ·simp [execOp, ho, Instr.alloc, PN hi hv, newVar, newRow, World.push]
 ·simp at he
theorem Bm.known {v : Value} {x : LV} {cs : List LV} (h : Bm g v x) (hk : x.known = some cs) : v.cells.size = cs.length ∧ ∀ i c, cs[i]? = some c → Bm g (v.cells.getD i Go.undef) c := by
 cases x with
 | agg ds =>
  simp only [LV.known, Option.some.injEq] at hk
  subst hk
  cases h with
  | agg vs _ hn hh hr => exact ⟨hn, hr⟩
 | d y =>
  cases h with
  | d h =>
   have one : ∀ z : DV, v.cells = #[v] → cs = [.d z] → Cd g.im g.fm v z → v.cells.size = cs.length ∧ ∀ i c, cs[i]? = some c → Bm g (v.cells.getD i Go.undef) c := by
    intro z h1 h2 hz
    rw [h1, h2]
    refine ⟨rfl, fun i c hc => ?_⟩
    cases i with
    | zero => simp only [List.getElem?_cons_zero, Option.some.injEq] at hc; subst hc; exact .d hz
    | succ i => simp at hc
   cases h with
   | bot => simp [LV.known] at hk
   | undef => simp [LV.known] at hk
   | tup => simp [LV.known] at hk
   | agg vs ds hn hr =>
    simp only [LV.known, Option.some.injEq] at hk
    subst hk
    refine ⟨by simpa [Value.cells] using hn, fun i c hc => ?_⟩
    simp only [List.getElem?_map, Option.map_eq_some_iff] at hc
    obtain ⟨z, hz, rfl⟩ := hc
    exact .d (hr i z hz)
   | int n => simp only [LV.known, Option.some.injEq] at hk; exact one _ rfl hk.symm (.int n)
   | bool n => simp only [LV.known, Option.some.injEq] at hk; exact one _ rfl hk.symm (.bool n)
   | nils => simp only [LV.known, Option.some.injEq] at hk; exact one _ rfl hk.symm .nils
   | nilmap => simp only [LV.known, Option.some.injEq] at hk; exact one _ rfl hk.symm .nilmap
   | nilfn => simp only [LV.known, Option.some.injEq] at hk; exact one _ rfl hk.symm .nilfn
   | slice b o cap z xs us hc hz hi hr => simp only [LV.known, Option.some.injEq] at hk; exact one _ rfl hk.symm (.slice b o cap z xs us hc hz hi hr)
   | gone b o sp z => simp only [LV.known, Option.some.injEq] at hk; exact one _ rfl hk.symm (.gone b o sp z)
   | fmap b n e1 e2 h1 h2 h3 h4 => simp only [LV.known, Option.some.injEq] at hk; exact one _ rfl hk.symm (.fmap b n e1 e2 h1 h2 h3 h4)
   | fn f va vb a b h1 h2 h3 h4 => simp only [LV.known, Option.some.injEq] at hk; exact one _ rfl hk.symm (.fn f va vb a b h1 h2 h3 h4)
   | fptr b o off cs us h1 h2 => simp only [LV.known, Option.some.injEq] at hk; exact one _ rfl hk.symm (.fptr b o off cs us h1 h2)
 | tup ds => simp [LV.known] at hk
 | hot z xs =>
  simp only [LV.known, Option.some.injEq] at hk
  subst hk
  have h' := h
  cases h with
  | hot h =>
   cases h <;> (
    refine ⟨rfl, fun i c hc => ?_⟩
    cases i with
    | zero => simp only [List.getElem?_cons_zero, Option.some.injEq] at hc; subst hc; exact h'
    | succ i => simp at hc)
 | full z xs =>
  simp only [LV.known, Option.some.injEq] at hk
  subst hk
  have h' := h
  cases h
  refine ⟨rfl, fun i c hc => ?_⟩
  cases i with
  | zero => simp only [List.getElem?_cons_zero, Option.some.injEq] at hc; subst hc; exact h'
  | succ i => simp at hc
 | ptr _ _ _ _ | mref _ _ _ | fn _ _ _ | fptr _ _ | yield _ _ =>
  simp only [LV.known, Option.some.injEq] at hk
  subst hk
  have h' := h
  cases h
  refine ⟨rfl, fun i c hc => ?_⟩
  cases i with
  | zero => simp only [List.getElem?_cons_zero, Option.some.injEq] at hc; subst hc; exact h'
  | succ i => simp at hc
theorem T0 {x : LV} {cs : List LV} (h : x.known = some cs) (hx : x.isHot = false) (hr : ∃ v, Bm g v x) : ∀ c, c ∈ cs → c.isHot = false := by
 cases x with
 | agg ds =>
  simp only [LV.known, Option.some.injEq] at h
  subst h
  obtain ⟨v, hr⟩ := hr
  cases hr with
  | agg vs _ hn hh _ => exact hh
 | d y =>
  cases y <;> simp only [LV.known, Option.some.injEq, reduceCtorEq] at h <;> subst h <;> intro c hc <;> simp at hc <;>
   first
    | (subst hc; rfl)
    | (obtain ⟨z, _, rfl⟩ := hc; rfl)
 | hot => simp [LV.isHot] at hx
 | tup => simp [LV.known] at h
 | _ =>
  simp only [LV.known, Option.some.injEq] at h
  subst h
  intro c hc
  simp only [List.mem_singleton] at hc
  subst hc; rfl
theorem tO {t : TypeId} {n : Nat} {xo : Operand} {x : Opd} {o : Oper} (h : AV T g w tss s ts) (hd : ∀ d, dst = some d → d < ts.size) (hgi : gi < s.ctr) (hg : g.gb gi = none)
  (hx : As xo = some x) (ho : o.op = .box t xo) (he : evalOp T.LP C gi dst (.box n x) s = some s') :
  Bd T g w tss s s' ts dst gi ((execOp (⟨ts, df⟩ : Act).eval o).run T.P w) := by
 simp only [evalOp] at he
 have hX := h.val (df := df) hx
 split at he
 ·rename_i d
  split at he
  ·rename_i cs hcs
   split at he
   ·rename_i hc
    simp only [Option.some.injEq] at he
    subst he
    obtain ⟨h1, h2⟩ := hX.known hcs
    simp only [List.all_eq_true] at hc
    refine sP h (hd _ rfl) hgi hg (e := t) h1 hc.2 (T0 hcs (Dt (HI _ _ _)) ⟨_, hX⟩) h2 ?_
    simp [execOp, ho, Instr.box, newVar, newRow, World.push]
   ·simp at he
  ·simp at he
 ·simp at he
end
end Go.Lf
namespace Go.Lf
open Go
theorem JB (cs : List LV) (off : Nat) (xs : List LV) (h : off + xs.length ≤ cs.length) (i : Nat) :
  (setCells cs off xs)[i]? = if off ≤ i ∧ i < off + xs.length then xs[i - off]? else cs[i]? := by
 unfold setCells
 have hl : (cs.take off).length = off := by simp; omega
 by_cases h1 : i < off
 ·rw [if_neg (by omega), List.append_assoc, List.getElem?_append_left (by omega), List.getElem?_take, if_pos h1]
 ·by_cases h2 : i < off + xs.length
  ·rw [if_pos (by omega), List.getElem?_append_left (by simp; omega), List.getElem?_append_right (by omega), hl]
  ·rw [if_neg (by omega), List.getElem?_append_right (by simp; omega), List.getElem?_drop]
   congr 1
   simp; omega
theorem Iu (cs : List LV) (off : Nat) (xs : List LV) (h : off + xs.length ≤ cs.length) : (setCells cs off xs).length = cs.length := by
 simp [setCells]; omega
theorem Q9 {g : Gh} {u : Value} {c : LV} (hr : Bm g u c) (hc : c.cellOk = true) : u.oneCell' = true := by
 cases hr with
 | d h => cases h <;> first | rfl | simp [LV.cellOk] at hc
 | hot h => cases h <;> rfl
 | full h => rfl
 | ptr h => rfl
 | mref h => rfl
 | agg => simp [LV.cellOk] at hc
 | tup => simp [LV.cellOk] at hc
 | fn => rfl
 | fptr => rfl
 | yield => rfl
section
variable {T : Tables} {g : Gh} {w : World} {tss : List (Array Value)} {s s' : St} {ts : Array Value} {dst : Option Nat} {gi : Nat} {df : List Deferred} {C : AM}
structure Rt (w w' : World) (b : Nat) (vs : Array Value) (e : TypeId) : Prop where
 here : w'.heap[b]? = some (.cells vs e (0, 0))
 there : ∀ c, c ≠ b → w'.heap[c]? = w.heap[c]?
 size : w'.heap.size = w.heap.size
 os : w'.os = w.os
 tape : w'.tape = w.tape
 output : w'.output = w.output
theorem me {b : Nat} {vs : Array Value} {e : TypeId} (h : w.heap[b]? = some (.cells vs e (0, 0))) (o : Nat) (xs : List Value) :
  Rt w (if xs = [] then w else AE w b (.cells (KR vs o xs) e (0, 0))) b (KR vs o xs) e := by
 have hb : b < w.heap.size := (Array.getElem?_eq_some_iff.1 h).1
 split
 ·rename_i hx; subst hx; exact ⟨h, fun _ _ => rfl, rfl, rfl, rfl, rfl⟩
 ·exact ⟨by rw [Az _ _ _ _ hb, if_pos rfl], fun c hc => by rw [Az _ _ _ _ hb, if_neg hc], by simp [AE], rfl, rfl, rfl⟩
theorem I2.stored {c : Nat} (h : I2 T g w c) {w' : World} {b : Nat} {vs vs' : Array Value} {e : TypeId} (hh : w.heap[b]? = some (.cells vs' e (0, 0)))
  (hi : ∀ i, g.im b i = none) (hs : Rt w w' b vs e) : I2 T g w' c where
 im b' i u hu := by
  have : b' ≠ b := fun e => by subst e; rw [hi] at hu; simp at hu
  rw [Ej (hs.there _ this)]
  exact h.im _ _ _ hu
 one := h.one
 fm b' es hf := by
  obtain ⟨c, hc⟩ := h.fm _ _ hf
  have : b' ≠ b := fun e => by subst e; rw [hh] at hc; simp at hc
  exact ⟨c, by rw [hs.there _ this]; exact hc⟩
 ow b' p hp := by rw [hs.size]; exact h.ow _ _ hp
 gb n b' hn := by rw [hs.size]; exact h.gb _ _ hn
 lp b' d hb := by
  obtain ⟨r, hr, hd⟩ := h.lp b' d hb
  have : b' ≠ b := fun e => by subst e; rw [hh] at hr; simp at hr
  exact ⟨r, by rw [hs.there _ this]; exact hr, hd⟩
 ctr := h.ctr
 globs := h.globs
theorem Rt.unch {w' : World} {b : Nat} {vs : Array Value} {e : TypeId} (hs : Rt w w' b vs e) {c : Nat} (hc : c ≠ b) : NQ g w g w' c :=
 ⟨hs.there c hc, fun _ => rfl, rfl, rfl⟩
theorem Rt.kept {w' : World} {b : Nat} {vs vs0 : Array Value} {e : TypeId} (hs : Rt w w' b vs e) (hh : w.heap[b]? = some (.cells vs0 e (0, 0))) {p : DR} (ho : g.ow b = some p) : N7 g w g w' :=
 ⟨.refl g, fun c _ hc => hs.unch fun e => by subst e; rw [ho] at hc; simp at hc, by rw [hs.size]; exact Nat.le_refl _, hs.os, hs.tape, hs.output, fun c => by
  unfold Qg
  by_cases hc : c = b
  ·subst hc; rw [hs.here, hh]; rfl
  ·rw [hs.there c hc]⟩
theorem AV.storeBox (h : AV T g w tss s ts) {j t gn off : Nat} {cs xs : List LV} (hc : s.cells j t gn = some cs) {ws : List Value}
  (hl : ws.length = xs.length) (hoff : off + xs.length ≤ cs.length) (hok : ∀ c, c ∈ xs → c.cellOk = true) (hr : ∀ i c, xs[i]? = some c → Bm g (ws.getD i Go.undef) c)
  (ho : ∀ i c, xs[i]? = some c → zu g w (.slot j t (off + i + 1)) (ws.getD i Go.undef) c) :
  ∃ b vs e, g.gb gn = some b ∧ g.ow b = some (.slot j t 0) ∧ w.heap[b]? = some (.cells vs e (0, 0)) ∧ vs.size = cs.length ∧
   ∀ w', Rt w w' b (KR vs off ws) e → N7 g w g w' ∧ AV T g w' tss (s.setAt j t (.box gn (setCells cs off xs))) ts := by
 obtain ⟨hat, b, vs, e, hval, hgb, how, hheap, him, hn, hcok, hrep⟩ := h.cells hc
 refine ⟨b, vs, e, hgb, how, hheap, hn, fun w' hs => ⟨hs.kept hheap how, h.setAt hat (h.winv.stored hheap him hs) (.refl g) (fun c p hcp hp => hs.unch fun e => ?_) ?_⟩⟩
 ·subst e; rw [how] at hcp; simp only [Option.some.injEq] at hcp; exact hp 0 hcp.symm
 ·rw [hval]
  refine .box hgb how hs.here him (by rw [J6, Iu _ _ _ hoff, hn]) (fun c hcm => ?_) fun i c hci => ?_
  ·obtain ⟨i, hi, hic⟩ := List.getElem_of_mem hcm
   have hic' : (setCells cs off xs)[i]? = some c := by rw [List.getElem?_eq_getElem hi, hic]
   rw [JB _ _ _ hoff] at hic'
   split at hic'
   ·exact hok c (List.mem_of_getElem? hic')
   ·exact hcok c (List.mem_of_getElem? hic')
  ·rw [NL _ _ _ _ (by omega)]
   rw [JB _ _ _ hoff] at hci
   have keep : ∀ q v x, zu g w (.slot j t (q + 1)) v x → zu g w' (.slot j t (q + 1)) v x := fun q v x hx => hx.keep fun b' hb' => hs.unch fun e => by
    subst e; rw [how] at hb'; simp only [Option.some.injEq, DR.slot.injEq] at hb'; omega
   by_cases hin : off ≤ i ∧ i < off + xs.length
   ·rw [if_pos hin] at hci
    rw [if_pos (by omega)]
    have := ho (i - off) c hci
    rw [show off + (i - off) + 1 = i + 1 by omega] at this
    exact ⟨hr _ c hci, keep _ _ _ this⟩
   ·rw [if_neg hin] at hci
    rw [if_neg (by omega)]
    exact ⟨(hrep i c hci).1, keep _ _ _ (hrep i c hci).2⟩
theorem OK (vs : Array Value) (i : Nat) : vs.toList.getD i Go.undef = vs.getD i Go.undef := by
 simp [List.getD, Array.getD_eq_getD_getElem?]
theorem mE {z : Nat} {xs : List DV} : (LV.hot z xs).known = some [.hot z xs] := rfl
theorem mi {t : TypeId} {k : Option Nat} {po xo : Operand} {p x : Opd} {o : Oper} (h : AV T g w tss s ts) (hd : dst = none)
  (hk : DC T.P t = some k) (hp : As po = some p) (hx : As xo = some x) (ho : o.op = .store t po xo) (he : evalOp T.LP C gi dst (.store (Bl k) p x) s = some s') :
  Bd T g w tss s s' ts dst gi ((execOp (⟨ts, df⟩ : Act).eval o).run T.P w) := by
 subst hd
 simp only [evalOp] at he
 have hP := h.val (df := df) hp
 split at he
 ·rename_i j t' g' off hval
  rw [hval] at hP
  obtain ⟨b, hv, hgb⟩ := hP.ptr'
  obtain ⟨g1, h1, h2, h3, h4, h5, h6, h7, h8, h9, h10⟩ := h.takeTo (df := df) hx (.slot j t' (off + 1))
  split at he
  ·rename_i cs xs hcs hxs
   split at he
   ·rename_i hc
    simp only [Option.some.injEq] at he
    subst he
    obtain ⟨hn, hoff, hok⟩ := hc
    simp only [List.all_eq_true] at hok
    obtain ⟨hsz, hrep⟩ := h1.known hxs
    obtain ⟨_, i, _, hi, hsi, _⟩ := CU hk
    obtain ⟨b', vs, e, hgb', how, hheap, hvs, hst⟩ := h2.storeBox (off := off) hcs (ws := ((⟨ts, df⟩ : Act).eval xo).cells.toList) (xs := xs) (by simpa using hsz) (by omega) hok
     (fun i c hc => by rw [OK]; exact hrep i c hc) (fun i c hc => by
      rcases h10 with hcold | ⟨z, ys, hz⟩
      ·exact zu.of_cold (T0 hxs (Dt hcold) ⟨_, h1⟩ c (List.mem_of_getElem? hc))
      ·rw [hz] at hxs h9
       rw [mE] at hxs
       simp only [Option.some.injEq] at hxs
       subst hxs
       cases i with
       | zero =>
        simp only [List.getElem?_cons_zero, Option.some.injEq] at hc
        subst hc
        have hcell : ((⟨ts, df⟩ : Act).eval xo).cells = #[(⟨ts, df⟩ : Act).eval xo] := by
         obtain ⟨_, _, _, hv', _⟩ := h9
         rw [hv']; rfl
        rw [hcell]
        exact h9
       | succ i => simp at hc)
    rw [h6, hgb] at hgb'
    simp only [Option.some.injEq] at hgb'
    subst hgb'
    have hrun := eM (P := T.P) (t := t) hi (b := b) (o := off) (v := (⟨ts, df⟩ : Act).eval xo) hheap (by rw [hsi]; omega) (by omega) (fun u hu => by
     obtain ⟨n, hn', hun⟩ := List.getElem_of_mem hu
     have hlt : n < xs.length := by rw [← hsz]; simpa using hn'
     have := Q9 (hrep n xs[n] (List.getElem?_eq_getElem hlt)) (hok _ (List.getElem_mem hlt))
     have he' : ((⟨ts, df⟩ : Act).eval xo).cells.getD n Go.undef = u := by rw [← OK]; simp [List.getD, List.getElem?_eq_getElem hn', hun]
     rw [he'] at this; exact this)
    have hS := me hheap off ((⟨ts, df⟩ : Act).eval xo).cells.toList
    obtain ⟨k1, k2⟩ := hst _ hS
    refine ⟨g1, _, Go.undef, .inr ⟨?_, rfl⟩, h5.trans k1, k2, fun n _ _ => by rw [h6]⟩
    simp only [execOp, ho]
    simp only [Instr.storeAt, hv, Instr.sureAddr, Sem.run_bind, Sem.run_pure, Result.andThen_ok, hrun]
   ·simp at he
  ·simp at he
 ·simp at he
theorem KH {α : Type} (cs : List α) (off i : Nat) (x : α) : (cs.set off x)[i]? = if off = i ∧ i < cs.length then some x else if off = i then none else cs[i]? := by
 rw [List.getElem?_set]
 by_cases h : off = i
 ·subst h
  by_cases h2 : off < cs.length <;> simp [h2]
 ·simp [h]
theorem AV.coolBox (h : AV T g w tss s ts) {j t gn off : Nat} {cs : List LV} (hc : s.cells j t gn = some cs) {z : Nat} {xs : List DV} (hcell : cs[off]? = some (.hot z xs)) (p : DR) :
  ∃ b vs e g', g.gb gn = some b ∧ w.heap[b]? = some (.cells vs e (0, 0)) ∧ vs.size = cs.length ∧ N7 g w g' w ∧ g'.gb = g.gb ∧
   AV T g' w tss (s.setAt j t (.box gn (cs.set off (.d (.slice z xs))))) ts ∧ Bm g' (vs.getD off Go.undef) (.hot z xs) ∧ zu g' w p (vs.getD off Go.undef) (.hot z xs) := by
 obtain ⟨hat, b, vs, e, hval, hgb, how, hheap, him, hn, hcok, hrep⟩ := h.cells hc
 obtain ⟨hr, hown⟩ := hrep off _ hcell
 obtain ⟨b2, o2, cap, hv, hb2, hi2, cells, e2, hh2, hcap⟩ := hown
 have hne : b ≠ b2 := fun e => by subst e; rw [how] at hb2; simp at hb2
 have hl := g.own_le b2 p
 refine ⟨b, vs, e, g.own b2 p, hgb, hheap, hn, O6 hb2, rfl, h.setAt hat (h.winv.own (h.winv.ow _ _ hb2)) hl (fun c q hcq hq => IU g w b2 p c fun e => ?_) ?_, hr.mono hl,
  ⟨b2, o2, cap, hv, by simp [Gh.own], hi2, cells, e2, hh2, hcap⟩⟩
 ·subst e; rw [hb2] at hcq; simp only [Option.some.injEq] at hcq; exact hq _ hcq.symm
 ·rw [hval]
  refine .box hgb (by simp [Gh.own, hne, how]) hheap him (by simpa using hn) (fun c hcm => ?_) fun i c hci => ?_
  ·rcases List.mem_or_eq_of_mem_set hcm with hm | rfl
   ·exact hcok c hm
   ·rfl
  ·rw [KH] at hci
   split at hci
   ·rename_i hoi
    obtain ⟨rfl, _⟩ := hoi
    simp only [Option.some.injEq] at hci
    subst hci
    exact ⟨(hr.mono hl).cool, trivial⟩
   ·rename_i hoi
    split at hci
    ·simp at hci
    ·rename_i hne'
     refine ⟨(hrep i c hci).1.mono hl, (hrep i c hci).2.keep fun b' hb' => IU g w b2 p b' fun e => ?_⟩
     subst e
     rw [hb2] at hb'
     simp only [Option.some.injEq, DR.slot.injEq] at hb'
     omega
theorem Yw {j t : Nat} {sl : A6} : (s.setAt j t sl).low.length = s.low.length := by
 unfold St.setAt
 split
 ·rfl
 ·simp
theorem fc {j t : Nat} {sl : A6} : (s.setAt j t sl).ctr = s.ctr := by
 unfold St.setAt
 split <;> rfl
theorem cJ {t : TypeId} {po : Operand} {p : Opd} {k : Option Nat} {o : Oper} (h : AV T g w tss s ts) (hd : ∀ d, dst = some d → d < ts.size)
  (hk : DC T.P t = some k) (hp : As po = some p) (ho : o.op = .load t po) (he : evalOp T.LP C gi dst (.load k p true) s = some s') :
  Bd T g w tss s s' ts dst gi ((execOp (⟨ts, df⟩ : Act).eval o).run T.P w) := by
 have hfall : evalOp T.LP C gi dst (.load k p false) s = some s' → Bd T g w tss s s' ts dst gi ((execOp (⟨ts, df⟩ : Act).eval o).run T.P w) :=
  fun he => jU h hd hk hp ho he
 have hP := h.val (df := df) hp
 simp only [evalOp] at he hfall
 split at he
 ·rename_i hval; rw [hval] at hfall; exact hfall he
 ·rename_i hval; rw [hval] at hfall; exact hfall he
 ·rename_i j t' g' off hval
  rw [hval] at hP hfall
  simp only at hfall
  obtain ⟨b, hv, hgb⟩ := hP.ptr'
  split at he
  ·rename_i cs hcs
   rw [hcs] at hfall
   split at he
   ·rename_i z xs _ hcell
    obtain ⟨b', vs, e, g1, hgb', hheap, hn, hkept, hgbe, hinv, hrep, hown⟩ := h.coolBox hcs hcell (.slot s.low.length (dst.getD 0) 0)
    rw [hgb] at hgb'
    simp only [Option.some.injEq] at hgb'
    subst hgb'
    have hlt : off < vs.size := by rw [hn]; exact (List.getElem?_eq_some_iff.1 hcell).1
    have hl := OY (P := T.P) hk (b := b) (o := off) (us := fun i => vs.getD (off + i) Go.undef) (w := w) fun j hj => DY hheap (by simp [Bl] at hj; omega)
    refine ⟨g1, w, vs.getD off Go.undef, .inl ?_, hkept, hinv.put he hd hrep fun d hdd => ?_, fun n _ _ => by rw [hgbe]⟩
    ·simp only [execOp, ho, Instr.loadAt, hv, Instr.sureAddr, Sem.run_bind, Sem.run_pure, Result.andThen_ok, hl, pw, Nat.add_zero]
    ·rw [Yw]; subst hdd; exact hown
   ·exact hfall he
  ·simp at he
 ·simp at he
end
end Go.Lf
namespace Go.Lf
open Go
section
variable {T : Tables} {g : Gh} {w : World} {tss : List (Array Value)} {s s' : St} {ts : Array Value} {dst : Option Nat} {gi : Nat} {df : List Deferred} {C : AM}
theorem jt {P : Program} {w : World} {t : TypeId} {k : Option Nat} (hk : DC P t = some k) {cs : Array Value} {off : Nat} (h : ∀ j, j < Bl k → off + j < cs.size) :
  (Go.part t cs off).run P w = .ok (pw k fun j => cs.getD (off + j) Go.undef) w := by
 obtain ⟨d, i, hu, hi, hs, ha⟩ := CU hk
 unfold Go.part
 simp only [Sem.run_bind, ML hu, ha, Result.andThen_ok]
 cases k with
 | none =>
  have h0 := h 0 (by simp [Bl])
  have : cs[off]? = some (cs.getD off Go.undef) := by simp [Array.getD, show off < cs.size by omega]
  simp only [Option.isSome_none, Bool.false_eq_true, if_false, this, Sem.run_pure]
  rfl
 | some n =>
  simp only [Option.isSome_some, if_true, Sem.run_bind, CO hi, hs, Bl, Option.getD_some, Result.andThen_ok, Sem.run_pure]
  congr 2
  simp only [Bl, Option.getD_some] at h
  apply Array.ext
  ·simp
   by_cases hn : n = 0
   ·subst hn; simp; omega
   ·have := h (n - 1) (by omega); omega
  ·intro j h1 h2
   simp at h1 h2
   simp [Array.getD, h j h2]
theorem Yl {v : Value} {x y : LV} {k : Option Nat} {off : Nat} (h : Bm g v x) (hp : Jr k off x = some y) :
  ∃ cs, v = .agg cs ∧ Bm g (pw k fun j => cs.getD (off + j) Go.undef) y ∧ y.cold = true ∧ ∀ j, j < Bl k → off + j < cs.size := by
 unfold Jr at hp
 split at hp
 ·rename_i ds
  cases h with
  | d h => cases h with
   | agg vs _ hn hr =>
    simp only [Option.map_eq_some_iff] at hp
    obtain ⟨z, hz, rfl⟩ := hp
    obtain ⟨h1, h2⟩ := eG (us := fun i => vs.getD i Go.undef) hr hz
    exact ⟨vs, rfl, .d h1, rfl, fun j hj => by rw [hn]; exact h2 j hj⟩
 ·rename_i ds
  cases h with
  | agg vs _ hn hh hr =>
   obtain ⟨h1, h3, h2⟩ := TU (us := fun i => vs.getD i Go.undef) hr hp
   exact ⟨vs, rfl, h1, h3, fun j hj => by rw [hn]; exact h2 j hj⟩
 ·simp at hp
theorem nO {t : TypeId} {fs : Array Field} {f : Nat} {fld : Field} {k : Option Nat} {xo : Operand} {x : Opd} {o : Oper} (h : AV T g w tss s ts) (hd : ∀ d, dst = some d → d < ts.size)
  (hu : T.P.underlying t = some (.struct fs)) (hf : fs[f]? = some fld) (hk : DC T.P fld.type = some k) (hx : As xo = some x) (ho : o.op = .field t xo f)
  (he : evalOp T.LP C gi dst (.field k fld.offset x) s = some s') : Bd T g w tss s s' ts dst gi ((execOp (⟨ts, df⟩ : Act).eval o).run T.P w) := by
 simp only [evalOp] at he
 have hX := h.val (df := df) hx
 split at he
 ·rename_i y hy
  obtain ⟨cs, hv, h1, h2, h3⟩ := Yl hX hy
  refine A8 h hd ?_ he h1 h2
  simp [execOp, ho, Instr.field, Ae hu, hf, hv, asAgg, jt hk h3]
 ·simp at he
theorem Y3 {v : Value} {x y : LV} {off : Nat} (h : Bm g v x) (hs : Hz off x = some y) :
  ∃ b o, v = .pointer (some ⟨b, o, none⟩) ∧ Bm g (.pointer (some ⟨b, o + off, none⟩)) y ∧ y.cold = true := by
 unfold Hz at hs
 split at hs
 ·rename_i cs o
  simp only [Option.some.injEq] at hs
  subst hs
  obtain ⟨b, o', us, hv, hi, hr⟩ := h.fptrD
  exact ⟨b, o' + o, hv, by rw [Nat.add_assoc]; exact .d (.fptr b o' _ cs us hi hr), rfl⟩
 ·rename_i cs o
  simp only [Option.some.injEq] at hs
  subst hs
  obtain ⟨b, o', us, hv, hh, hi, hr⟩ := h.fptrL
  exact ⟨b, o' + o, hv, by rw [Nat.add_assoc]; exact .fptr b o' _ cs us hh hi hr, rfl⟩
 ·simp only [Option.some.injEq] at hs
  subst hs
  obtain ⟨b, hv, hg⟩ := h.ptr'
  exact ⟨b, _, hv, .ptr hg, rfl⟩
 ·simp at hs
theorem pO {t : TypeId} {fs : Array Field} {f : Nat} {off n : Nat} {xo : Operand} {x : Opd} {o : Oper} (h : AV T g w tss s ts) (hd : ∀ d, dst = some d → d < ts.size)
  (hu : T.P.underlying t = some (.struct fs)) (hf : Zd T.P fs f = some (off, n)) (hn : n ≠ 0) (hx : As xo = some x) (ho : o.op = .fieldAddr t xo f)
  (he : evalOp T.LP C gi dst (.faddr off x) s = some s') : Bd T g w tss s s' ts dst gi ((execOp (⟨ts, df⟩ : Act).eval o).run T.P w) := by
 unfold Zd at hf
 split at hf
 ·rename_i fld hfld
  simp only [Option.map_eq_some_iff, Prod.mk.injEq] at hf
  obtain ⟨k, hk, rfl, rfl⟩ := hf
  obtain ⟨d, i, hu', hi, hs, ha⟩ := CU hk
  simp only [evalOp] at he
  have hX := h.val (df := df) hx
  split at he
  ·rename_i y hy
   obtain ⟨b, o', hv, hr, hc⟩ := Y3 hX hy
   refine A8 h hd ?_ he hr hc
   simp [execOp, ho, Instr.fieldAt, Ae hu, hfld, hv, Instr.sureAddr, fieldPlace, CO hi, hs, hn, HV]
  ·simp at he
 ·simp at hf
theorem nk {t e : TypeId} {n : Nat} {k : Option Nat} {xo io : Operand} {x i : Opd} {o : Oper} (h : AV T g w tss s ts) (hd : ∀ d, dst = some d → d < ts.size)
  (hu : T.P.underlying t = some (.array n e)) (hk : DC T.P e = some k) (hx : As xo = some x) (hi : As io = some i) (ho : o.op = .index t xo io)
  (he : evalOp T.LP C gi dst (.index k (Bl k) n x i) s = some s') : Bd T g w tss s s' ts dst gi ((execOp (⟨ts, df⟩ : Act).eval o).run T.P w) := by
 simp only [evalOp] at he
 have hX := h.val (df := df) hx
 have hI := h.val (df := df) hi
 obtain ⟨d, ie, hu', hie, hs, ha⟩ := CU hk
 split at he
 ·rename_i m hm
  have hmv := hI.nat hm
  split at he
  ·rename_i hlt
   split at he
   ·rename_i y hy
    obtain ⟨cs, hv, h1, h2, h3⟩ := Yl hX hy
    refine A8 h hd ?_ he h1 h2
    simp [execOp, ho, Instr.index, asIntOf, hmv, Ae hu, hv, hlt, CO hie, hs, jt hk h3]
   ·simp at he
  ·simp at he
 ·simp at he
theorem lF {t e : TypeId} {n : Nat} {k : Option Nat} {xo io : Operand} {x i : Opd} {o : Oper} (h : AV T g w tss s ts) (hd : ∀ d, dst = some d → d < ts.size)
  (hu : T.P.underlying t = some (.array n e)) (hk : DC T.P e = some k) (hx : As xo = some x) (hi : As io = some i) (ho : o.op = .indexAddr t xo io)
  (he : evalOp T.LP C gi dst (.iaddrA (Bl k) n x i) s = some s') : Bd T g w tss s s' ts dst gi ((execOp (⟨ts, df⟩ : Act).eval o).run T.P w) := by
 simp only [evalOp] at he
 have hX := h.val (df := df) hx
 have hI := h.val (df := df) hi
 obtain ⟨d, ie, hu', hie, hs, ha⟩ := CU hk
 split at he
 ·rename_i m hm
  have hmv := hI.nat hm
  split at he
  ·rename_i hlt
   split at he
   ·rename_i y hy
    obtain ⟨b, o', hv, hr, hc⟩ := Y3 hX hy
    refine A8 h hd ?_ he hr hc
    simp [execOp, ho, Instr.indexAt, asIntOf, hmv, Ae hu, hv, Instr.sureAddr, hlt, CO hie, hs, HV]
   ·simp at he
  ·simp at he
 ·simp at he
theorem Iw {v : Value} {x : LV} {z : Nat} {xs : List DV} (h : Bm g v x) (he : LR x = some (z, xs)) : Cd g.im g.fm v (.slice z xs) := by
 unfold LR at he
 split at he <;> simp only [Option.some.injEq, Prod.mk.injEq, reduceCtorEq] at he
 ·obtain ⟨rfl, rfl⟩ := he; cases h with | d h => exact h
 ·obtain ⟨rfl, rfl⟩ := he; cases h with | hot h => exact h
 ·obtain ⟨rfl, rfl⟩ := he; cases h with | full h => exact h
theorem Hq {v : Value} {z : Nat} {xs : List DV} (h : Cd g.im g.fm v (.slice z xs)) : ∃ (b o : Nat) (sp : Option Nat) (cap : Nat) (us : Nat → Value), v = .slice (some ⟨b, o, sp⟩) xs.length cap ∧ (0 < cap → sp = none) ∧ xs.length ≤ cap ∧
  (∀ x, x ∈ xs → x.cells.length = z) ∧ (∀ i, i < xs.length * z → g.im b (o + i) = some (us i)) ∧ ∀ i c, (xs.flatMap DV.cells)[i]? = some c → Cd g.im g.fm (us i) c := by
 cases h with
 | slice b o cap _ _ us hc hz hi hr => exact ⟨b, o, none, cap, us, rfl, fun _ => rfl, hc, hz, hi, hr⟩
 | gone b o sp z => exact ⟨b, o, some sp, 0, fun _ => Go.undef, rfl, by simp, by simp, by simp, by simp, by simp⟩
theorem KZ {xs : List DV} {z : Nat} (h : ∀ x, x ∈ xs → x.cells.length = z) : (xs.flatMap DV.cells).length = xs.length * z := by
 induction xs with
 | nil => simp
 | cons x r ih =>
  simp only [List.flatMap_cons, List.length_append, List.length_cons, Nat.add_mul, Nat.one_mul]
  rw [ih fun y hy => h y (by simp [hy]), h x (by simp)]
  omega
theorem il {z : Nat} : ∀ {xs : List DV}, (∀ x, x ∈ xs → x.cells.length = z) → ∀ {i j : Nat} {e c : DV}, xs[i]? = some e → e.cells[j]? = some c → (xs.flatMap DV.cells)[i * z + j]? = some c
 | [], _, i, j, e, c, he, _ => by simp at he
 | x :: r, h, 0, j, e, c, he, hc => by
  simp only [List.getElem?_cons_zero, Option.some.injEq] at he
  subst he
  simp only [List.flatMap_cons, Nat.zero_mul, Nat.zero_add]
  rw [List.getElem?_append_left (List.getElem?_eq_some_iff.1 hc).1]
  exact hc
 | x :: r, h, i + 1, j, e, c, he, hc => by
  simp only [List.getElem?_cons_succ] at he
  have := il (xs := r) (fun y hy => h y (by simp [hy])) he hc
  have hx := h x (by simp)
  simp only [List.flatMap_cons]
  rw [List.getElem?_append_right (by rw [hx, Nat.add_mul]; omega), hx]
  rw [show (i + 1) * z + j - z = i * z + j by rw [Nat.add_mul]; omega]
  exact this
theorem lV {v : Value} {z : Nat} {xs : List DV} (h : Cd g.im g.fm v (.slice z xs)) {i : Nat} {e : DV} (he : xs[i]? = some e) :
  ∃ b o cap, v = .slice (some ⟨b, o, none⟩) xs.length cap ∧ Cd g.im g.fm (.pointer (some ⟨b, o + i * z, none⟩)) (.fptr e.cells 0) ∧ i < xs.length := by
 obtain ⟨b, o, sp, cap, us, hv, hsp, hc, hz, hi, hr⟩ := Hq h
 have hlt := (List.getElem?_eq_some_iff.1 he).1
 obtain rfl := hsp (by omega)
 have hez := hz e (List.mem_of_getElem? he)
 refine ⟨b, o, cap, hv, ?_, hlt⟩
 have := Cd.fptr (im := g.im) (fm := g.fm) b (o + i * z) 0 e.cells (fun j => us (i * z + j)) (fun j hj => ?_) fun j c hc => hr _ _ (il hz he hc)
 ·simpa using this
 ·rw [Nat.add_assoc]
  apply hi
  have : (i + 1) * z ≤ xs.length * z := Nat.mul_le_mul_right z (by omega)
  rw [Nat.add_mul] at this
  omega
theorem lz {t e : TypeId} {k : Option Nat} {xo io : Operand} {x i : Opd} {o : Oper} (h : AV T g w tss s ts) (hd : ∀ d, dst = some d → d < ts.size)
  (hu : T.P.underlying t = some (.slice e)) (hk : DC T.P e = some k) (hx : As xo = some x) (hi : As io = some i) (ho : o.op = .indexAddr t xo io)
  (he : evalOp T.LP C gi dst (.iaddrS (Bl k) x i) s = some s') : Bd T g w tss s s' ts dst gi ((execOp (⟨ts, df⟩ : Act).eval o).run T.P w) := by
 simp only [evalOp] at he
 have hX := h.val (df := df) hx
 have hI := h.val (df := df) hi
 obtain ⟨d, ie, hu', hie, hs, ha⟩ := CU hk
 split at he
 ·rename_i z xs m hxs hm
  have hmv := hI.nat hm
  split at he
  ·rename_i el hel
   split at he
   ·rename_i hz
    subst hz
    obtain ⟨b, o', cap, hv, hr, hlt⟩ := lV (Iw hX hxs) hel
    refine A8 h hd ?_ he (.d hr) rfl
    simp [execOp, ho, Instr.indexAt, asIntOf, hmv, Ae hu, hv, hlt, CO hie, hs, HV]
   ·simp at he
  ·simp at he
 ·simp at he
theorem Bm.dinv {v : Value} {x : DV} (h : Bm g v (.d x)) : Cd g.im g.fm v x := by
 cases h with | d h => exact h
theorem QS {v : Value} (h : Cd g.im g.fm v .nils) : v = .slice none 0 0 := by cases h; rfl
theorem tK {t : TypeId} {e : TypeId} {xo : Operand} {x : Opd} {o : Oper} {c : Call} (h : AV T g w tss s ts) (hd : ∀ d, dst = some d → d < ts.size)
  (hu : T.P.underlying t = some (.slice e)) (hx : As xo = some x) (ho : o.op = .call c) (hc : c.callee = .builtin .len) (ha : c.args = #[xo]) (hat : c.argTypes[0]? = some t)
  (he : evalOp T.LP C gi dst (.len x) s = some s') : Bd T g w tss s s' ts dst gi ((execOp (⟨ts, df⟩ : Act).eval o).run T.P w) := by
 simp only [evalOp] at he
 have hX := h.val (df := df) hx
 split at he
 ·rename_i n hn
  have hlen : ∃ a cap, (⟨ts, df⟩ : Act).eval xo = .slice a n cap := by
   unfold fy at hn
   split at hn
   ·rename_i hval
    rw [hval] at hX
    simp only [Option.some.injEq] at hn
    subst hn
    exact ⟨none, 0, QS hX.dinv⟩
   ·simp only [Option.map_eq_some_iff] at hn
    obtain ⟨p, hp, rfl⟩ := hn
    obtain ⟨b, o', sp, cap, us, hv, _⟩ := Hq (Iw hX hp)
    exact ⟨_, cap, hv⟩
  obtain ⟨a, cap, hv⟩ := hlen
  refine A8 h hd (v := .int .i64 n) ?_ he (.d (.int _)) rfl
  simp [execOp, ho, resolve, hc, ha, invoke, builtin, Builtin.len_, hat, Ae hu, hv, goInt]
 ·simp at he
end
end Go.Lf
