/- A part of the proof. -/
import Derived.Test.YtpkbckdhkaggbaaDoorx11
set_option linter.all false
namespace Go.Lf
open Go
theorem Dz.v_inv {g : Gh} {w : World} {j t : Nat} {v : Value} {x : LV} (h : Dz g w j t v (.v x)) : Bj g v x ∧ Fb g w j t v x := by
 cases h with
 | v h ho => exact ⟨h, ho⟩
def Gh.own (g : Gh) (b : Nat) (p : DX) : Gh := { g with ow := fun c => if c = b then some p else g.ow c }
theorem Gh.own_le (g : Gh) (b : Nat) (p : DX) : g.Le (g.own b p) := ⟨fun _ _ _ h => h, fun _ _ h => h, fun _ _ h => h, fun _ _ h => h⟩
theorem Hv (g : Gh) (w : World) (b : Nat) (p : DX) (c : Nat) (h : c ≠ b) : NG g w (g.own b p) w c :=
 ⟨rfl, fun _ => rfl, rfl, by simp [Gh.own, h]⟩
section
variable {T : Tables} {g : Gh} {w : World} {tss : List (Array Value)} {s s' : St} {ts : Array Value} {dst : Option Nat} {gi : Nat} {df : List Deferred} {C : AP}
theorem IU.own {c : Nat} (h : IU T g w c) {b : Nat} {p : DX} (hb : b < w.heap.size) : IU T (g.own b p) w c :=
 ⟨h.im, h.one, h.fm, fun c p' hc => by
  simp only [Gh.own] at hc
  split at hc
  ·subst_vars; exact hb
  ·exact h.ow _ _ hc, h.gb, h.lp, h.ctr, h.globs⟩
theorem AS.reown (h : AS T g w tss s ts) {b x i : Nat} {p : DX} (ho : g.ow b = some (.slot s.low.length x i)) (hx : ∀ sl, s.env.get x = some sl → ∃ c : LV, sl = .v c ∧ c.cold = true) :
  AS T (g.own b p) w tss s ts := by
 refine ⟨h.winv.own (h.winv.ow _ _ ho), h.stack.keep (g.own_le b p) fun c q hc hq => Hv g w b p c fun e => ?_, fun t sl hs => ?_⟩
 ·subst e; rw [ho] at hc; simp only [Option.some.injEq] at hc; subst hc; simp [DX.level] at hq
 ·by_cases ht : t = x
  ·subst ht
   obtain ⟨c, rfl, hc⟩ := hx sl hs
   have hr := (h.env t _ hs).v_inv.1
   exact .v (hr.mono (g.own_le b p)) (Fb.of_cold (hr.mono (g.own_le b p)) hc)
  ·refine (h.env t sl hs).keep (g.own_le b p) fun c i hc => Hv g w b p c fun e => ?_
   subst e
   rw [ho] at hc
   simp only [Option.some.injEq, DX.slot.injEq] at hc
   exact ht hc.2.1.symm
theorem Oy {b : Nat} {p q : DX} (ho : g.ow b = some q) : N5 g w (g.own b p) w :=
 ⟨g.own_le b p, fun c _ hc => Hv g w b p c fun e => by subst e; rw [ho] at hc; simp at hc, Nat.le_refl _, rfl, rfl, rfl, fun _ => rfl⟩
theorem AS.take (h : AS T g w tss s ts) {xo : Operand} {x : vD} (hx : Aq xo = some x) :
  Bj g ((⟨ts, df⟩ : Act).eval xo) (s.take T.LP x).1 ∧ AS T g w tss (s.take T.LP x).2 ts ∧ (s.take T.LP x).2.low = s.low ∧ (s.take T.LP x).2.ctr = s.ctr ∧
   (((s.take T.LP x).1.cold = true ∧ (s.take T.LP x).2 = s) ∨
    (∃ t z xs, x = .tmp t ∧ (s.take T.LP x).1 = .hot z xs ∧ (s.take T.LP x).2.env.get t = some (.v (.d (.slice z xs))) ∧ (∀ u, u ≠ t → (s.take T.LP x).2.env.get u = s.env.get u) ∧
     uM g w (.slot s.low.length t 0) ((⟨ts, df⟩ : Act).eval xo) (.hot z xs))) := by
 have hv := h.val (df := df) hx
 unfold St.take
 cases x with
 | tmp t =>
  have hxo : (⟨ts, df⟩ : Act).eval xo = ts.getD t Go.undef := by
   cases xo <;> simp only [Aq, Option.some.injEq, Option.map_eq_some_iff, reduceCtorEq, and_false, exists_false, vD.tmp.injEq] at hx
   subst hx; rfl
  simp only
  split
  ·rename_i z xs he
   obtain ⟨hr, ho⟩ := (h.env t _ he).v_inv
   refine ⟨by rw [hxo]; exact hr, ⟨h.winv, h.stack, fun u sl hs => ?_⟩, rfl, rfl, .inr ⟨t, z, xs, rfl, rfl, by simp [D3], fun u hu => by simp [D3, hu], by rw [hxo]; exact ho⟩⟩
   simp only [D3] at hs
   split at hs
   ·rename_i e; subst e; simp only [Option.some.injEq] at hs; subst hs; exact .v hr.cool trivial
   ·exact h.env u sl hs
  ·exact ⟨hv, h, rfl, rfl, .inl ⟨Rn s t, rfl⟩⟩
 | con v => exact ⟨hv, h, rfl, rfl, .inl ⟨rfl, rfl⟩⟩
 | glob n => exact ⟨hv, h, rfl, rfl, .inl ⟨rfl, rfl⟩⟩
theorem AS.takeTo (h : AS T g w tss s ts) {xo : Operand} {x : vD} (hx : Aq xo = some x) (p : DX) :
  ∃ g', Bj g' ((⟨ts, df⟩ : Act).eval xo) (s.take T.LP x).1 ∧ AS T g' w tss (s.take T.LP x).2 ts ∧ (s.take T.LP x).2.low = s.low ∧ (s.take T.LP x).2.ctr = s.ctr ∧
   N5 g w g' w ∧ g'.gb = g.gb ∧ g'.im = g.im ∧ g'.fm = g.fm ∧ uM g' w p ((⟨ts, df⟩ : Act).eval xo) (s.take T.LP x).1 ∧
   ((s.take T.LP x).1.cold = true ∨ ∃ z xs, (s.take T.LP x).1 = .hot z xs) := by
 obtain ⟨h1, h2, h3, h4, h5⟩ := h.take (df := df) hx
 rcases h5 with ⟨hc, hs⟩ | ⟨t, z, xs, rfl, hhot, hbot, _, ho⟩
 ·exact ⟨g, h1, h2, h3, h4, .refl g w, rfl, rfl, rfl, uM.of_cold (Dm hc), .inl hc⟩
 ·rw [hhot] at h1 ⊢
  obtain ⟨b, o, cap, hv, hb, hi, cells, e, hh, hcap⟩ := ho
  have hre := h2.reown (p := p) (b := b) (x := t) (i := 0) (by rw [h3]; exact hb) fun sl hs => by rw [hbot] at hs; simp only [Option.some.injEq] at hs; subst hs; exact ⟨_, rfl, rfl⟩
  exact ⟨g.own b p, h1.mono (g.own_le b p), hre, h3, h4, Oy hb, rfl, rfl, rfl, ⟨b, o, cap, hv, by simp [Gh.own], hi, cells, e, hh, hcap⟩, .inr ⟨z, xs, rfl⟩⟩
theorem YJ {j t : Nat} {v : Value} {x : LV} (h : uM g w (.slot j t 0) v x) (hx : x.cold = true ∨ ∃ z xs, x = .hot z xs) (hr : Bj g v x) : Fb g w j t v x := by
 rcases hx with hc | ⟨z, xs, rfl⟩
 ·exact Fb.of_cold hr hc
 ·exact h
theorem Ou {xo : Operand} {x : vD} {o : Oper} (h : AS T g w tss s ts) (hd : ∀ d, dst = some d → d < ts.size) (hx : Aq xo = some x)
  (ho : o.op = .move xo ∨ o.op = .assign xo) (he : evalOp T.LP C gi dst (.move x true) s = some s') :
  BS T g w tss s s' ts dst gi ((execOp (⟨ts, df⟩ : Act).eval o).run T.P w) := by
 simp only [evalOp] at he
 obtain ⟨g', h1, h2, h3, h4, h5, h6, h7, h8, h9, h10⟩ := h.takeTo (df := df) hx (.slot s.low.length (dst.getD 0) 0)
 refine ⟨g', w, (⟨ts, df⟩ : Act).eval xo, .inl ?_, h5, h2.put he hd h1 fun d hdd => ?_, fun n _ _ => by rw [h6]⟩
 ·rcases ho with ho | ho <;> simp only [execOp, ho] <;> rfl
 ·rw [h3]
  subst hdd
  exact YJ h9 h10 h1
theorem AS.setAt (h : AS T g w tss s ts) {g' : Gh} {w' : World} {j t : Nat} {sl0 sl : BE} (hs : s.at j t = some sl0) (hw : IU T g' w' s.ctr) (hl : g.Le g')
  (hk : ∀ b p, g.ow b = some p → (∀ i, p ≠ .slot j t i) → NG g w g' w' b) (hr : Dz g' w' j t ((mb tss s.low.length ts j).getD t Go.undef) sl) :
  AS T g' w' tss (s.setAt j t sl) ts := by
 unfold St.setAt
 unfold St.at at hs
 unfold mb at hr
 split
 ·rename_i hj
  subst hj
  rw [if_pos rfl] at hr
  refine ⟨hw, h.stack.keep hl fun b p hb hp => hk b p hb fun i e => by subst e; simp [DX.level] at hp, fun u su hu => ?_⟩
  simp only [D3] at hu
  split at hu
  ·rename_i hut; subst hut; simp only [Option.some.injEq] at hu; subst hu; exact hr
  ·rename_i hut
   exact (h.env u su hu).keep hl fun b i hb => hk b _ hb fun i' e => by simp only [DX.slot.injEq] at e; exact hut e.2.1
 ·rename_i hj
  rw [if_neg hj] at hs hr
  split at hs
  ·rename_i fr hfr
   have hjl : j < s.low.length := (List.getElem?_eq_some_iff.1 hfr).1
   refine ⟨hw, ⟨by simpa using h.stack.len, fun j' ts' fr' h1 h2 => ?_⟩, fun u su hu => ?_⟩
   ·by_cases hjj : j = j'
    ·subst hjj
     simp [hfr] at h2
     subst h2
     have hf := h.stack.fr j ts' fr h1 hfr
     have hts : tss.getD j #[] = ts' := by simp [List.getD, h1]
     rw [hts] at hr
     refine ⟨fun u su hu => ?_, fun r hr' => (hf.loop r hr').keep hl fun b hb => hk b _ hb fun i e => by simp at e⟩
     simp only [D3] at hu
     split at hu
     ·rename_i hut; subst hut; simp only [Option.some.injEq] at hu; subst hu; exact hr
     ·rename_i hut
      exact (hf.env u su hu).keep hl fun b i hb => hk b _ hb fun i' e => by simp only [DX.slot.injEq] at e; exact hut e.2.1
    ·have h2' : s.low[j']? = some fr' := by simpa [List.getElem?_modify, hjj] using h2
     exact (h.stack.fr j' ts' fr' h1 h2').keep hl fun b p hb hp => hk b p hb fun i e => by subst e; exact hjj (by simpa [DX.level] using hp)
   ·simp only [List.length_modify]
    exact (h.env u su hu).keep hl fun b i hb => hk b _ hb fun i' e => by simp only [DX.slot.injEq] at e; exact hj e.1.symm
  ·simp at hs
theorem rp {LP : A2} {x : vD} : (s.take LP x).2.low.length = s.low.length := by
 unfold St.take
 cases x with
 | tmp t => simp only; split <;> rfl
 | _ => rfl
end
end Go.Lf
namespace Go.Lf
open Go
def Gh.fresh (g : Gh) (b : Nat) (p : DX) (gn : Option Nat) : Gh :=
 { g with ow := fun c => if c = b then some p else g.ow c, gb := fun n => if gn = some n then some b else g.gb n }
def World.push (w : World) (o : Obj) : World := { w with heap := w.heap.push o }
theorem G2 {w : World} {o : Obj} {b : Nat} (h : b < w.heap.size) : (World.push w o).heap[b]? = w.heap[b]? := by
 simp only [World.push, Array.getElem?_push]
 rw [if_neg (by omega)]
theorem KD {w : World} {o : Obj} : (World.push w o).heap[w.heap.size]? = some o := Array.getElem?_push_size
theorem EG {w : World} {o : Obj} : (World.push w o).heap.size = w.heap.size + 1 := by simp [World.push]
theorem dy {w : World} {a : Addr} {v : Value} (h : w.cell? a = some v) : a.block < w.heap.size := by
 unfold World.cell? at h
 split at h
 ·rename_i hh; exact (Array.getElem?_eq_some_iff.1 hh).1
 ·simp at h
theorem EQ {w w' : World} {a : Addr} (h : w'.heap[a.block]? = w.heap[a.block]?) : w'.cell? a = w.cell? a := by
 unfold World.cell?; rw [h]
section
variable {T : Tables} {g : Gh} {w : World} {tss : List (Array Value)} {s s' : St} {ts : Array Value} {dst : Option Nat} {gi : Nat} {df : List Deferred} {C : AP}
theorem IU.im_fresh {c : Nat} (h : IU T g w c) {b : Nat} (hb : w.heap.size ≤ b) (i : Nat) : g.im b i = none := by
 cases hi : g.im b i with
 | none => rfl
 | some u => have := dy (h.im _ _ _ hi); simp only at this; omega
theorem IU.fm_fresh {c : Nat} (h : IU T g w c) {b : Nat} (hb : w.heap.size ≤ b) : g.fm b = none := by
 cases hi : g.fm b with
 | none => rfl
 | some u => obtain ⟨c, hc⟩ := h.fm _ _ hi; have := (Array.getElem?_eq_some_iff.1 hc).1; omega
theorem IU.ow_fresh {c : Nat} (h : IU T g w c) {b : Nat} (hb : w.heap.size ≤ b) : g.ow b = none := by
 cases hi : g.ow b with
 | none => rfl
 | some u => have := h.ow _ _ hi; omega
theorem S3 {b : Nat} {p : DX} {gn : Option Nat} (hg : ∀ n, gn = some n → g.gb n = none) : g.Le (g.fresh b p gn) :=
 ⟨fun _ _ _ h => h, fun _ _ h => h, fun n c h => by
  simp only [Gh.fresh]
  split
  ·rename_i e; rw [hg n e] at h; simp at h
  ·exact h, fun _ _ h => h⟩
theorem Qb {o : Obj} {p : DX} {gn : Option Nat} {b : Nat} (hb : b < w.heap.size) : NG g w (g.fresh w.heap.size p gn) (World.push w o) b :=
 ⟨G2 hb, fun _ => rfl, rfl, by simp only [Gh.fresh]; rw [if_neg (by omega)]⟩
theorem IU.fresh {c : Nat} (h : IU T g w c) (o : Obj) (p : DX) {gn : Option Nat} (hg : ∀ n, gn = some n → n < c ∧ g.gb n = none) :
  IU T (g.fresh w.heap.size p gn) (World.push w o) c where
 im b i u hi := by
  have := h.im b i u hi
  rw [EQ (G2 (dy this))]; exact this
 one := h.one
 fm b es hf := by
  obtain ⟨c, hc⟩ := h.fm b es hf
  exact ⟨c, by rw [G2 (Array.getElem?_eq_some_iff.1 hc).1]; exact hc⟩
 ow b q hb := by
  simp only [Gh.fresh] at hb
  rw [EG]
  split at hb
  ·omega
  ·have := h.ow b q hb; omega
 gb n b hb := by
  simp only [Gh.fresh] at hb
  rw [EG]
  split at hb
  ·simp only [Option.some.injEq] at hb; omega
  ·have := h.gb n b hb; omega
 ctr n hn := by
  simp only [Gh.fresh]
  split
  ·rename_i e; have := (hg n e).1; omega
  ·exact h.ctr n hn
 lp b d hb := by
  obtain ⟨r, hr, hd⟩ := h.lp b d hb
  exact ⟨r, by rw [G2 (Array.getElem?_eq_some_iff.1 hr).1]; exact hr, hd⟩
 globs n := (h.globs n)
theorem VO {w : World} {o : Obj} (ho : ey (some o) = (0, 0)) (b : Nat) : QL (World.push w o) b = QL w b := by
 unfold QL
 by_cases hb : b < w.heap.size
 ·rw [G2 hb]
 ·have hn : w.heap[b]? = none := Array.getElem?_eq_none (by omega)
  rw [hn]
  by_cases hb2 : b = w.heap.size
  ·subst hb2; rw [KD, ho]; rfl
  ·have : (World.push w o).heap[b]? = none := Array.getElem?_eq_none (by rw [EG]; omega)
   rw [this]
theorem X7 {c : Nat} (h : IU T g w c) (o : Obj) (ho : ey (some o) = (0, 0)) (p : DX) {gn : Option Nat} (hg : ∀ n, gn = some n → n < c ∧ g.gb n = none) :
  N5 g w (g.fresh w.heap.size p gn) (World.push w o) :=
 ⟨S3 fun n e => (hg n e).2, fun b hb _ => Qb hb, by rw [EG]; omega, rfl, rfl, rfl, VO ho⟩
theorem AS.fresh (h : AS T g w tss s ts) (o : Obj) (p : DX) {gn : Option Nat} (hg : ∀ n, gn = some n → n < s.ctr ∧ g.gb n = none) :
  AS T (g.fresh w.heap.size p gn) (World.push w o) tss s ts :=
 h.move (h.winv.fresh o p hg) (S3 fun n e => (hg n e).2) fun b _ hb => Qb (h.winv.ow _ _ hb)
theorem AS.setSlot (h : AS T g w tss s ts) {d : Nat} (hd : d < ts.size) {v : Value} {sl : BE} (hr : Dz g w s.low.length d v sl) :
  AS T g w tss { s with env := s.env.set d sl } (eb ts (some d) v) := by
 refine ⟨h.winv, h.stack, fun t sl' hs => ?_⟩
 simp only [D3] at hs
 by_cases ht : t = d
 ·subst ht
  rw [if_pos rfl] at hs
  simp only [Option.some.injEq] at hs
  subst hs
  rw [eb, Kp _ _ _ hd]
  exact hr
 ·rw [if_neg ht] at hs
  rw [eb, KY _ _ _ _ ht]
  exact h.env t sl' hs
theorem X1 {v : Value} {d : DV} (h : cv1 v = some d) : (LV.d d).cellOk = true := by
 unfold cv1 at h
 split at h <;> first
  | (simp only [Option.some.injEq] at h; subst h; rfl)
  | (simp at h; done)
theorem Xz : ∀ {vs : List Value} {ds : List DV}, cvs vs = some ds → ∀ d, d ∈ ds → (LV.d d).cellOk = true
 | [], ds, h => by simp only [cvs, Option.some.injEq] at h; subst h; simp
 | x :: r, ds, h => by
  simp only [cvs] at h
  split at h
  ·rename_i y ys hy hys
   simp only [Option.some.injEq] at h
   subst h
   intro d hd
   cases hd with
   | head => exact X1 hy
   | tail _ hd => exact Xz hys d hd
  ·simp at h
theorem G0 {P : Program} {t : TypeId} {zs : List DV} (h : zeroCells P t = some zs) : ∃ k i v, C6 P t = some k ∧ P.info? t = some i ∧ i.zero = some v ∧ zs.length = Bf k ∧
  v.cells.size = zs.length ∧ (∀ z, z ∈ zs → (LV.d z).cellOk = true) ∧ ∀ im fm (n : Nat) (c : DV), zs[n]? = some c → Cf im fm (v.cells.getD n Go.undef) c := by
 unfold zeroCells at h
 split at h
 ·rename_i k z hk hz
  split at h
  ·rename_i hl
   simp only [Option.some.injEq] at h
   subst h
   unfold RI at hz
   split at hz
   ·rename_i i hi
    split at hz
    ·rename_i v hv
     refine ⟨k, i, v, hk, hi, hv, hl, ?_⟩
     unfold cv at hz
     split at hz
     ·rename_i cs
      simp only [Option.map_eq_some_iff] at hz
      obtain ⟨ds, hds, rfl⟩ := hz
      refine ⟨by have := (Cf.cvs (im := fun _ _ => none) (fm := fun _ => none) hds).1; simpa [Value.cells, DV.cells] using this, Xz hds, fun im fm n c hc => ?_⟩
      obtain ⟨v', hv', hr⟩ := (Cf.cvs (im := im) (fm := fm) hds).2 n c hc
      simp only [Array.getElem?_toList] at hv'
      simp only [Value.cells]
      rw [Array.getD_eq_getD_getElem?, hv']
      exact hr
     ·rename_i hna
      have hcells : z.cells = [z] := by
       unfold cv1 at hz
       split at hz <;> first
        | (simp only [Option.some.injEq] at hz; subst hz; rfl)
        | (simp at hz; done)
      have hvc : v.cells = #[v] := by
       cases v <;> first | rfl | exact absurd rfl (hna _)
      rw [hcells, hvc]
      refine ⟨rfl, fun z' hz' => ?_, fun im fm n c hc => ?_⟩
      ·simp only [List.mem_singleton] at hz'; subst hz'; exact X1 hz
      ·cases n with
       | zero => simp only [List.getElem?_cons_zero, Option.some.injEq] at hc; subst hc; exact Cf.cv1 hz
       | succ n => simp at hc
    ·simp at hz
   ·simp at hz
  ·simp at h
 ·simp at h
theorem mY {x : LV} : x.isHot = false ∨ x.isHot = true := by cases x.isHot <;> simp
theorem oS (h : AS T g w tss s ts) {d : Nat} (hd : d < ts.size) (hgi : gi < s.ctr) (hg : g.gb gi = none) {cs : List LV} {vs : Array Value} {e : TypeId}
  (hn : vs.size = cs.length) (hk : ∀ c, c ∈ cs → c.cellOk = true) (hh : ∀ c, c ∈ cs → c.isHot = false) (hr : ∀ i c, cs[i]? = some c → Bj g (vs.getD i Go.undef) c)
  {r : Result Next} (hrun : r = .ok (.value (.pointer (some ⟨w.heap.size, 0, none⟩))) (World.push w (.cells vs e))) :
  BS T g w tss s { s with env := s.env.set d (.box gi cs) } ts (some d) gi r := by
 have hgn : ∀ n, some gi = some n → n < s.ctr ∧ g.gb n = none := fun n e => by simp only [Option.some.injEq] at e; subst e; exact ⟨hgi, hg⟩
 have hl : g.Le (g.fresh w.heap.size (.slot s.low.length d 0) (some gi)) := S3 fun n e => (hgn n e).2
 refine ⟨g.fresh w.heap.size (.slot s.low.length d 0) (some gi), World.push w (.cells vs e), _, .inl hrun, X7 h.winv _ rfl _ hgn, (h.fresh _ _ hgn).setSlot hd ?_, fun n _ hne => ?_⟩
 ·refine .box (by simp [Gh.fresh]) (by simp [Gh.fresh]) KD (fun i => ?_) hn hk fun i c hc => ⟨(hr i c hc).mono hl, uM.of_cold (hh c (List.mem_of_getElem? hc))⟩
  exact h.winv.im_fresh (Nat.le_refl _) i
 ·simp only [Gh.fresh, Option.some.injEq]
  rw [if_neg (fun e => hne e.symm)]
theorem km {t : TypeId} {zs : List DV} {o : Oper} (h : AS T g w tss s ts) (hd : ∀ d, dst = some d → d < ts.size) (hgi : gi < s.ctr) (hg : g.gb gi = none)
  (hz : zeroCells T.P t = some zs) (ho : o.op = .alloc t) (he : evalOp T.LP C gi dst (.alloc zs) s = some s') :
  BS T g w tss s s' ts dst gi ((execOp (⟨ts, df⟩ : Act).eval o).run T.P w) := by
 simp only [evalOp] at he
 split at he
 ·rename_i d
  simp only [Option.some.injEq] at he
  subst he
  obtain ⟨k, i, v, hk, hi, hv, hl, hn, hok, hr⟩ := G0 hz
  refine oS h (hd _ rfl) hgi hg (vs := v.cells) (e := t) (by simpa using hn) ?_ ?_ ?_ ?_
  ·intro c hc
   simp only [List.mem_map] at hc
   obtain ⟨z, hz, rfl⟩ := hc
   exact hok z hz
  ·intro c hc
   simp only [List.mem_map] at hc
   obtain ⟨z, hz, rfl⟩ := hc
   rfl
  ·intro n c hc
   simp only [List.getElem?_map, Option.map_eq_some_iff] at hc
   obtain ⟨z, hz, rfl⟩ := hc
   exact .d (hr _ _ n z hz)
  ·simp [execOp, ho, Instr.alloc, QI hi hv, newVar, newRow, World.push]
 ·simp at he
theorem Bj.known {v : Value} {x : LV} {cs : List LV} (h : Bj g v x) (hk : x.known = some cs) : v.cells.size = cs.length ∧ ∀ i c, cs[i]? = some c → Bj g (v.cells.getD i Go.undef) c := by
 cases x with
 | agg ds =>
  simp only [LV.known, Option.some.injEq] at hk
  subst hk
  cases h with
  | agg vs _ hn hh hr => exact ⟨hn, hr⟩
 | d y =>
  cases h with
  | d h =>
   have one : ∀ z : DV, v.cells = #[v] → cs = [.d z] → Cf g.im g.fm v z → v.cells.size = cs.length ∧ ∀ i c, cs[i]? = some c → Bj g (v.cells.getD i Go.undef) c := by
    intro z h1 h2 hz
    rw [h1, h2]
    refine ⟨rfl, fun i c hc => ?_⟩
    cases i with
    | zero => simp only [List.getElem?_cons_zero, Option.some.injEq] at hc; subst hc; exact .d hz
    | succ i => simp at hc
   cases h with
   | bot => simp [LV.known] at hk
   | undef => simp [LV.known] at hk
   | tup => simp [LV.known] at hk
   | agg vs ds hn hr =>
    simp only [LV.known, Option.some.injEq] at hk
    subst hk
    refine ⟨by simpa [Value.cells] using hn, fun i c hc => ?_⟩
    simp only [List.getElem?_map, Option.map_eq_some_iff] at hc
    obtain ⟨z, hz, rfl⟩ := hc
    exact .d (hr i z hz)
   | int n => simp only [LV.known, Option.some.injEq] at hk; exact one _ rfl hk.symm (.int n)
   | bool n => simp only [LV.known, Option.some.injEq] at hk; exact one _ rfl hk.symm (.bool n)
   | nils => simp only [LV.known, Option.some.injEq] at hk; exact one _ rfl hk.symm .nils
   | nilmap => simp only [LV.known, Option.some.injEq] at hk; exact one _ rfl hk.symm .nilmap
   | nilfn => simp only [LV.known, Option.some.injEq] at hk; exact one _ rfl hk.symm .nilfn
   | slice b o cap z xs us hc hz hi hr => simp only [LV.known, Option.some.injEq] at hk; exact one _ rfl hk.symm (.slice b o cap z xs us hc hz hi hr)
   | gone b o sp z => simp only [LV.known, Option.some.injEq] at hk; exact one _ rfl hk.symm (.gone b o sp z)
   | fmap b n e1 e2 h1 h2 h3 h4 => simp only [LV.known, Option.some.injEq] at hk; exact one _ rfl hk.symm (.fmap b n e1 e2 h1 h2 h3 h4)
   | fn f va vb a b h1 h2 h3 h4 => simp only [LV.known, Option.some.injEq] at hk; exact one _ rfl hk.symm (.fn f va vb a b h1 h2 h3 h4)
   | fptr b o off cs us h1 h2 => simp only [LV.known, Option.some.injEq] at hk; exact one _ rfl hk.symm (.fptr b o off cs us h1 h2)
 | tup ds => simp [LV.known] at hk
 | hot z xs =>
  simp only [LV.known, Option.some.injEq] at hk
  subst hk
  have h' := h
  cases h with
  | hot h =>
   cases h <;> (
    refine ⟨rfl, fun i c hc => ?_⟩
    cases i with
    | zero => simp only [List.getElem?_cons_zero, Option.some.injEq] at hc; subst hc; exact h'
    | succ i => simp at hc)
 | full z xs =>
  simp only [LV.known, Option.some.injEq] at hk
  subst hk
  have h' := h
  cases h
  refine ⟨rfl, fun i c hc => ?_⟩
  cases i with
  | zero => simp only [List.getElem?_cons_zero, Option.some.injEq] at hc; subst hc; exact h'
  | succ i => simp at hc
 | ptr _ _ _ _ | mref _ _ _ | fn _ _ _ | fptr _ _ | yield _ _ =>
  simp only [LV.known, Option.some.injEq] at hk
  subst hk
  have h' := h
  cases h
  refine ⟨rfl, fun i c hc => ?_⟩
  cases i with
  | zero => simp only [List.getElem?_cons_zero, Option.some.injEq] at hc; subst hc; exact h'
  | succ i => simp at hc
theorem Uc {x : LV} {cs : List LV} (h : x.known = some cs) (hx : x.isHot = false) (hr : ∃ v, Bj g v x) : ∀ c, c ∈ cs → c.isHot = false := by
 cases x with
 | agg ds =>
  simp only [LV.known, Option.some.injEq] at h
  subst h
  obtain ⟨v, hr⟩ := hr
  cases hr with
  | agg vs _ hn hh _ => exact hh
 | d y =>
  cases y <;> simp only [LV.known, Option.some.injEq, reduceCtorEq] at h <;> subst h <;> intro c hc <;> simp at hc <;>
   first
    | (subst hc; rfl)
    | (obtain ⟨z, _, rfl⟩ := hc; rfl)
 | hot => simp [LV.isHot] at hx
 | tup => simp [LV.known] at h
 | _ =>
  simp only [LV.known, Option.some.injEq] at h
  subst h
  intro c hc
  simp only [List.mem_singleton] at hc
  subst hc; rfl
theorem qL {t : TypeId} {n : Nat} {xo : Operand} {x : vD} {o : Oper} (h : AS T g w tss s ts) (hd : ∀ d, dst = some d → d < ts.size) (hgi : gi < s.ctr) (hg : g.gb gi = none)
  (hx : Aq xo = some x) (ho : o.op = .box t xo) (he : evalOp T.LP C gi dst (.box n x) s = some s') :
  BS T g w tss s s' ts dst gi ((execOp (⟨ts, df⟩ : Act).eval o).run T.P w) := by
 simp only [evalOp] at he
 have hX := h.val (df := df) hx
 split at he
 ·rename_i d
  split at he
  ·rename_i cs hcs
   split at he
   ·rename_i hc
    simp only [Option.some.injEq] at he
    subst he
    obtain ⟨h1, h2⟩ := hX.known hcs
    simp only [List.all_eq_true] at hc
    refine oS h (hd _ rfl) hgi hg (e := t) h1 hc.2 (Uc hcs (Dm (Gi _ _ _)) ⟨_, hX⟩) h2 ?_
    simp [execOp, ho, Instr.box, newVar, newRow, World.push]
   ·simp at he
  ·simp at he
 ·simp at he
end
end Go.Lf
