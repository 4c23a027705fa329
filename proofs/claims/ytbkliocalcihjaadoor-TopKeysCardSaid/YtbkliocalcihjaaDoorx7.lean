/- A part of the proof. -/
import Derived.Test.YtbkliocalcihjaaDoorx6
set_option linter.all false
namespace Go.Lf
open Go
inductive DR where
 | slot (j t i : Nat)
 | loop (j : Nat)
 deriving DecidableEq
def DR.level : DR → Nat
 | .slot j _ _ => j
 | .loop j => j
structure Gh where
 im : Nat → Nat → Option Value
 fm : Nat → Option (Array MapEntry)
 gb : Nat → Option Nat
 ow : Nat → Option DR
 lp : Nat → Option Nat
def Ww (n : Nat) (k : List Int) (v : Value) : Prop := k.length = n ∧ v = (if n = 1 then .int .i64 (k.headD 0) else .agg (k.map (.int .i64)).toArray)
inductive Cd (im : Nat → Nat → Option Value) (fm : Nat → Option (Array MapEntry)) : Value → DV → Prop
 | bot (v : Value) : Cd im fm v .bot
 | undef : Cd im fm Go.undef .undef
 | int (n : Int) : Cd im fm (.int .i64 n) (.int n)
 | bool (b : Bool) : Cd im fm (.bool b) (.bool b)
 | nils : Cd im fm (.slice none 0 0) .nils
 | slice (b o cap z : Nat) (xs : List DV) (us : Nat → Value) (hc : xs.length ≤ cap) (hz : ∀ x, x ∈ xs → x.cells.length = z)
  (hi : ∀ i, i < xs.length * z → im b (o + i) = some (us i)) (hr : ∀ i c, (xs.flatMap DV.cells)[i]? = some c → Cd im fm (us i) c) :
  Cd im fm (.slice (some ⟨b, o, none⟩) xs.length cap) (.slice z xs)
 | gone (b o sp z : Nat) : Cd im fm (.slice (some ⟨b, o, some sp⟩) 0 0) (.slice z [])
 | agg (vs : Array Value) (cs : List DV) (hn : vs.size = cs.length) (hr : ∀ i c, cs[i]? = some c → Cd im fm (vs.getD i Go.undef) c) : Cd im fm (.agg vs) (.agg cs)
 | tup (vs : Array Value) (cs : List DV) (hn : vs.size = cs.length) (hr : ∀ i c, cs[i]? = some c → Cd im fm (vs.getD i Go.undef) c) : Cd im fm (.tuple vs) (.tup cs)
 | nilmap : Cd im fm (.map none) .nilmap
 | fmap (b n : Nat) (es' : Array MapEntry) (es : List (List Int × DV)) (hf : fm b = some es') (hn : es'.size = es.length)
  (hk : ∀ i p, es[i]? = some p → Ww n p.1 (es'.getD i default).key) (hr : ∀ i p, es[i]? = some p → Cd im fm (es'.getD i default).val p.2) :
  Cd im fm (.map (some b)) (.fmap n es)
 | fn (f : Nat) (va vb : Array Value) (a b : List DV) (hna : va.size = a.length) (hnb : vb.size = b.length)
  (ha : ∀ i c, a[i]? = some c → Cd im fm (va.getD i Go.undef) c) (hb : ∀ i c, b[i]? = some c → Cd im fm (vb.getD i Go.undef) c) : Cd im fm (.func (.func f) va vb) (.fn f a b)
 | nilfn : Cd im fm .nilFunc .nilfn
 | fptr (b o off : Nat) (cs : List DV) (us : Nat → Value) (hi : ∀ i, i < cs.length → im b (o + i) = some (us i))
  (hr : ∀ i c, cs[i]? = some c → Cd im fm (us i) c) : Cd im fm (.pointer (some ⟨b, o + off, none⟩)) (.fptr cs off)
def LV.isHot : LV → Bool
 | .hot _ _ => true
 | _ => false
def LV.cold : LV → Bool
 | .hot _ _ => false
 | .tup cs => cs.all fun c => !c.isHot
 | _ => true
inductive Bm (g : Gh) : Value → LV → Prop
 | d {v : Value} {x : DV} (h : Cd g.im g.fm v x) : Bm g v (.d x)
 | hot {v : Value} {z : Nat} {xs : List DV} (h : Cd g.im g.fm v (.slice z xs)) : Bm g v (.hot z xs)
 | full {a : Option Addr} {n z : Nat} {xs : List DV} (h : Cd g.im g.fm (.slice a n n) (.slice z xs)) : Bm g (.slice a n n) (.full z xs)
 | ptr {b j t gen off : Nat} (h : g.gb gen = some b) : Bm g (.pointer (some ⟨b, off, none⟩)) (.ptr j t gen off)
 | mref {b j t gen : Nat} (h : g.gb gen = some b) : Bm g (.map (some b)) (.mref j t gen)
 | agg (vs : Array Value) (cs : List LV) (hn : vs.size = cs.length) (hh : ∀ c, c ∈ cs → c.isHot = false)
  (hr : ∀ i c, cs[i]? = some c → Bm g (vs.getD i Go.undef) c) : Bm g (.agg vs) (.agg cs)
 | tup (vs : Array Value) (cs : List LV) (hn : vs.size = cs.length) (hr : ∀ i c, cs[i]? = some c → Bm g (vs.getD i Go.undef) c) : Bm g (.tuple vs) (.tup cs)
 | fn (f : Nat) (va vb : Array Value) (a b : List LV) (hna : va.size = a.length) (hnb : vb.size = b.length)
  (hha : ∀ c, c ∈ a → c.cold = true) (hhb : ∀ c, c ∈ b → c.cold = true)
  (ha : ∀ i c, a[i]? = some c → Bm g (va.getD i Go.undef) c) (hb : ∀ i c, b[i]? = some c → Bm g (vb.getD i Go.undef) c) : Bm g (.func (.func f) va vb) (.fn f a b)
 | fptr (b o off : Nat) (cs : List LV) (us : Nat → Value) (hh : ∀ c, c ∈ cs → c.isHot = false) (hi : ∀ i, i < cs.length → g.im b (o + i) = some (us i))
  (hr : ∀ i c, cs[i]? = some c → Bm g (us i) c) : Bm g (.pointer (some ⟨b, o + off, none⟩)) (.fptr cs off)
 | yield {l j gen : Nat} (h : g.gb gen = some l) : Bm g (.func (.yield l) #[] #[]) (.yield j gen)
structure Gh.Le (g g' : Gh) : Prop where
 im : ∀ b i u, g.im b i = some u → g'.im b i = some u
 fm : ∀ b e, g.fm b = some e → g'.fm b = some e
 gb : ∀ n b, g.gb n = some b → g'.gb n = some b
 lp : ∀ n b, g.lp n = some b → g'.lp n = some b
theorem Gh.Le.refl (g : Gh) : g.Le g := ⟨fun _ _ _ h => h, fun _ _ h => h, fun _ _ h => h, fun _ _ h => h⟩
theorem Gh.Le.trans {a b c : Gh} (h : a.Le b) (h' : b.Le c) : a.Le c :=
 ⟨fun _ _ _ x => h'.im _ _ _ (h.im _ _ _ x), fun _ _ x => h'.fm _ _ (h.fm _ _ x), fun _ _ x => h'.gb _ _ (h.gb _ _ x), fun _ _ x => h'.lp _ _ (h.lp _ _ x)⟩
theorem Cd.mono {im im' : Nat → Nat → Option Value} {fm fm' : Nat → Option (Array MapEntry)} (hi : ∀ b i u, im b i = some u → im' b i = some u)
  (hf : ∀ b e, fm b = some e → fm' b = some e) {v : Value} {x : DV} (h : Cd im fm v x) : Cd im' fm' v x := by
 induction h with
 | bot v => exact .bot v
 | undef => exact .undef
 | int n => exact .int n
 | bool b => exact .bool b
 | nils => exact .nils
 | slice b o cap z xs us hc hz h1 _ ih => exact .slice b o cap z xs us hc hz (fun i h => hi _ _ _ (h1 i h)) ih
 | gone b o sp z => exact .gone b o sp z
 | agg vs cs hn _ ih => exact .agg vs cs hn ih
 | tup vs cs hn _ ih => exact .tup vs cs hn ih
 | nilmap => exact .nilmap
 | fmap b n es' es h1 hn hk _ ih => exact .fmap b n es' es (hf _ _ h1) hn hk ih
 | fn f va vb a b hna hnb _ _ iha ihb => exact .fn f va vb a b hna hnb iha ihb
 | nilfn => exact .nilfn
 | fptr b o off cs us h1 _ ih => exact .fptr b o off cs us (fun i h => hi _ _ _ (h1 i h)) ih
theorem Bm.mono {g g' : Gh} (hl : g.Le g') {v : Value} {x : LV} (h : Bm g v x) : Bm g' v x := by
 induction h with
 | d h => exact .d (h.mono hl.im hl.fm)
 | hot h => exact .hot (h.mono hl.im hl.fm)
 | full h => exact .full (h.mono hl.im hl.fm)
 | ptr h => exact .ptr (hl.gb _ _ h)
 | mref h => exact .mref (hl.gb _ _ h)
 | agg vs cs hn hh _ ih => exact .agg vs cs hn hh ih
 | tup vs cs hn _ ih => exact .tup vs cs hn ih
 | fn f va vb a b hna hnb hha hhb _ _ iha ihb => exact .fn f va vb a b hna hnb hha hhb iha ihb
 | fptr b o off cs us hh h1 _ ih => exact .fptr b o off cs us hh (fun i h => hl.im _ _ _ (h1 i h)) ih
 | yield h => exact .yield (hl.gb _ _ h)
def zu (g : Gh) (w : World) (p : DR) (v : Value) (x : LV) : Prop := match x with
 | .hot z xs => ∃ b o cap, v = .slice (some ⟨b, o, none⟩) xs.length cap ∧ g.ow b = some p ∧ (∀ i, o + xs.length * z ≤ i → g.im b i = none) ∧
  ∃ cells e, w.heap[b]? = some (.cells cells e (0, 0)) ∧ o + cap * z ≤ cells.size
 | _ => True
def GK (g : Gh) (w : World) (j t : Nat) (v : Value) (x : LV) : Prop := match x with
 | .tup cs => ∃ vs, v = .tuple vs ∧ ∀ i c, cs[i]? = some c → zu g w (.slot j t (i + 1)) (vs.getD i Go.undef) c
 | x => zu g w (.slot j t 0) v x
inductive EA (g : Gh) (w : World) (j t : Nat) : Value → A6 → Prop
 | v {v : Value} {x : LV} (h : Bm g v x) (ho : GK g w j t v x) : EA g w j t v (.v x)
 | box {b gen : Nat} {cs : List LV} {vs : Array Value} {e : TypeId} (hg : g.gb gen = some b) (ho : g.ow b = some (.slot j t 0)) (hh : w.heap[b]? = some (.cells vs e (0, 0)))
  (hi : ∀ i, g.im b i = none) (hn : vs.size = cs.length) (hk : ∀ c, c ∈ cs → c.cellOk = true)
  (hr : ∀ i c, cs[i]? = some c → Bm g (vs.getD i Go.undef) c ∧ zu g w (.slot j t (i + 1)) (vs.getD i Go.undef) c) :
  EA g w j t (.pointer (some ⟨b, 0, none⟩)) (.box gen cs)
 | mapo {b gen n : Nat} {es : List (List Int × LV)} {es' : Array MapEntry} (hg : g.gb gen = some b) (ho : g.ow b = some (.slot j t 0)) (hh : w.heap[b]? = some (.map es' es'.size))
  (hf : g.fm b = none) (hn : es'.size = es.length) (hb : ∀ i, i < es'.size → (es'.getD i default).born = i)
  (hk : ∀ i p, es[i]? = some p → Ww n p.1 (es'.getD i default).key)
  (hr : ∀ i p, es[i]? = some p → Bm g (es'.getD i default).val p.2 ∧ zu g w (.slot j t (i + 1)) (es'.getD i default).val p.2) :
  EA g w j t (.map (some b)) (.mapo gen n es)
def zk.code : zk → Option Code
 | .normal => none
 | .exit id => some (.exit id)
 | .ret => some .ret
def Cb (ready : Bool) (pending : Option zk) : LoopState := if ready then .ready else match pending with
 | some _ => .done
 | none => .busy
structure Tables where
 P : Program
 ann : Nat → List Rn
 globs : Nat → List DV
def Tables.LP (T : Tables) : Aw := vO T.P T.ann T.globs
def bX (T : Tables) (g : Gh) (w : World) (j : Nat) (tmps : Array Value) (r : KV) : Prop :=
 ∃ l fn ps assign body df, g.gb r.gen = some l ∧ g.lp l = some df ∧ g.ow l = some (.loop j) ∧
  w.heap[l]? = some (.loop { state := Cb r.ready r.pending, pending := r.pending.bind zk.code, fn, tmps, params := ps, assign, body, defers := df }) ∧
  ps.toList = r.params ∧ (∀ q, r.pending = some q → q ≠ .normal) ∧
  ∃ f, T.P.funcs[fn]? = some f ∧ f.ntmps = tmps.size ∧ GF T.P (T.ann fn) f.ntmps assign = true ∧ GF T.P (T.ann fn) f.ntmps body = true ∧ (∀ t ∈ r.params, t < f.ntmps) ∧
   r.assign = Cc T.P (T.ann fn) assign ∧ r.body = Cc T.P (T.ann fn) body
structure Tc (T : Tables) (g : Gh) (w : World) (j : Nat) (tmps : Array Value) (fr : Fr) : Prop where
 env : ∀ t s, fr.env.get t = some s → EA g w j t (tmps.getD t Go.undef) s
 loop : ∀ r, fr.loop = some r → bX T g w j tmps r
structure Gk (T : Tables) (g : Gh) (w : World) (tss : List (Array Value)) (low : List Fr) : Prop where
 len : tss.length = low.length
 fr : ∀ j ts fr, tss[j]? = some ts → low[j]? = some fr → Tc T g w j ts fr
structure I2 (T : Tables) (g : Gh) (w : World) (ctr : Nat) : Prop where
 im : ∀ b i u, g.im b i = some u → w.cell? ⟨b, i, none⟩ = some u
 one : ∀ b i u, g.im b i = some u → u.oneCell' = true
 fm : ∀ b es, g.fm b = some es → ∃ c, w.heap[b]? = some (.map es c)
 ow : ∀ b p, g.ow b = some p → b < w.heap.size
 gb : ∀ n b, g.gb n = some b → b < w.heap.size
 lp : ∀ b d, g.lp b = some d → ∃ r, w.heap[b]? = some (.loop r) ∧ r.defers = d
 ctr : ∀ n, ctr ≤ n → g.gb n = none
 globs : ∀ n, Cd g.im g.fm (.pointer (some ⟨n, 0, none⟩)) (.fptr (T.globs n) 0)
structure NQ (g : Gh) (w : World) (g' : Gh) (w' : World) (b : Nat) : Prop where
 heap : w'.heap[b]? = w.heap[b]?
 im : ∀ i, g'.im b i = g.im b i
 fm : g'.fm b = g.fm b
 ow : g'.ow b = g.ow b
def iE : Option Obj → Nat × Nat
 | some (.cells _ _ fz) => fz
 | _ => (0, 0)
def Qg (w : World) (b : Nat) : Nat × Nat := iE w.heap[b]?
structure N7 (g : Gh) (w : World) (g' : Gh) (w' : World) : Prop where
 le : g.Le g'
 unch : ∀ b, b < w.heap.size → g.ow b = none → NQ g w g' w' b
 size : w.heap.size ≤ w'.heap.size
 os : w'.os = w.os
 tape : w'.tape = w.tape
 output : w'.output = w.output
 frz : ∀ b, Qg w' b = Qg w b
theorem NQ.refl (g : Gh) (w : World) (b : Nat) : NQ g w g w b := ⟨rfl, fun _ => rfl, rfl, rfl⟩
theorem NQ.trans {g w g' w' g'' w''} {b : Nat} (h : NQ g w g' w' b) (h' : NQ g' w' g'' w'' b) : NQ g w g'' w'' b :=
 ⟨h'.heap.trans h.heap, fun i => (h'.im i).trans (h.im i), h'.fm.trans h.fm, h'.ow.trans h.ow⟩
theorem N7.refl (g : Gh) (w : World) : N7 g w g w := ⟨.refl g, fun _ _ _ => .refl _ _ _, Nat.le_refl _, rfl, rfl, rfl, fun _ => rfl⟩
theorem N7.trans {g w g' w' g'' w''} (h : N7 g w g' w') (h' : N7 g' w' g'' w'') : N7 g w g'' w'' :=
 ⟨h.le.trans h'.le, fun b hb ho => (h.unch b hb ho).trans (h'.unch b (Nat.lt_of_lt_of_le hb h.size) (by rw [(h.unch b hb ho).ow]; exact ho)),
  Nat.le_trans h.size h'.size, h'.os.trans h.os, h'.tape.trans h.tape, h'.output.trans h.output, fun b => (h'.frz b).trans (h.frz b)⟩
theorem zu.keep {g : Gh} {w : World} {g' : Gh} {w' : World} {p : DR} {v : Value} {x : LV} (h : zu g w p v x)
  (hk : ∀ b, g.ow b = some p → NQ g w g' w' b) : zu g' w' p v x := by
 unfold zu at *
 split at h
 ·rename_i z xs
  obtain ⟨b, o, cap, hv, hb, hi, cells, e, hh, hc⟩ := h
  have hu := hk b hb
  exact ⟨b, o, cap, hv, hu.ow.trans hb, fun i h => (hu.im i).trans (hi i h), cells, e, hu.heap.trans hh, hc⟩
 ·trivial
theorem GK.keep {g : Gh} {w : World} {g' : Gh} {w' : World} {j t : Nat} {v : Value} {x : LV} (h : GK g w j t v x)
  (hk : ∀ b i, g.ow b = some (.slot j t i) → NQ g w g' w' b) : GK g' w' j t v x := by
 unfold GK at *
 split at h
 ·obtain ⟨vs, hv, h⟩ := h
  exact ⟨vs, hv, fun i c hc => (h i c hc).keep fun b hb => hk b _ hb⟩
 ·exact zu.keep h fun b hb => hk b _ hb
theorem EA.keep {g : Gh} {w : World} {g' : Gh} {w' : World} {j t : Nat} {v : Value} {s : A6} (h : EA g w j t v s) (hl : g.Le g')
  (hk : ∀ b i, g.ow b = some (.slot j t i) → NQ g w g' w' b) : EA g' w' j t v s := by
 cases h with
 | v h ho => exact .v (h.mono hl) (ho.keep hk)
 | box hg ho hh hi hn hc hr =>
  have hu := hk _ _ ho
  exact .box (hl.gb _ _ hg) (hu.ow.trans ho) (hu.heap.trans hh) (fun i => (hu.im i).trans (hi i)) hn hc
   fun i c h => ⟨(hr i c h).1.mono hl, (hr i c h).2.keep fun b hb => hk b _ hb⟩
 | mapo hg ho hh hf hn hb hkey hr =>
  have hu := hk _ _ ho
  exact .mapo (hl.gb _ _ hg) (hu.ow.trans ho) (hu.heap.trans hh) (hu.fm.trans hf) hn hb hkey
   fun i c h => ⟨(hr i c h).1.mono hl, (hr i c h).2.keep fun b hb => hk b _ hb⟩
theorem bX.keep {T : Tables} {g : Gh} {w : World} {g' : Gh} {w' : World} {j : Nat} {ts : Array Value} {r : KV} (h : bX T g w j ts r) (hl : g.Le g')
  (hk : ∀ b, g.ow b = some (.loop j) → NQ g w g' w' b) : bX T g' w' j ts r := by
 obtain ⟨l, fn, ps, as, bd, df, h1, h0, h2, h3, h4⟩ := h
 have hu := hk _ h2
 exact ⟨l, fn, ps, as, bd, df, hl.gb _ _ h1, hl.lp _ _ h0, hu.ow.trans h2, hu.heap.trans h3, h4⟩
theorem Tc.keep {T : Tables} {g : Gh} {w : World} {g' : Gh} {w' : World} {j : Nat} {ts : Array Value} {fr : Fr} (h : Tc T g w j ts fr) (hl : g.Le g')
  (hk : ∀ b p, g.ow b = some p → p.level = j → NQ g w g' w' b) : Tc T g' w' j ts fr :=
 ⟨fun t s hs => (h.env t s hs).keep hl fun b _ hb => hk b _ hb rfl, fun r hr => (h.loop r hr).keep hl fun b hb => hk b _ hb rfl⟩
theorem Gk.keep {T : Tables} {g : Gh} {w : World} {g' : Gh} {w' : World} {tss : List (Array Value)} {low : List Fr} (h : Gk T g w tss low) (hl : g.Le g')
  (hk : ∀ b p, g.ow b = some p → p.level < low.length → NQ g w g' w' b) : Gk T g' w' tss low :=
 ⟨h.len, fun j ts fr h1 h2 => (h.fr j ts fr h1 h2).keep hl fun b p hb hp => hk b p hb (by rw [hp]; exact (List.getElem?_eq_some_iff.1 h2).1)⟩
end Go.Lf
