/- A part of the proof. -/
import Derived.Test.YtbkliocalcihjaaDoorx6
import Derived.Test.YtbkliocalcihjaaDoorx13
set_option linter.all false
namespace Go.Lf
open Go
section
variable {T : Tables} {g : Gh} {w : World} {tss : List (Array Value)} {s s' : St} {ts : Array Value} {dst : Option Nat} {gi : Nat} {df : List Deferred} {C : AM}
theorem Uw {P : Program} {e : TypeId} {z : DV} (h : SC P e = some z) : ∃ v, (∀ w : World, (zeroValue e).run P w = .ok v w) ∧ ∀ im fm, Cd im fm v z := by
 unfold SC at h
 split at h
 ·rename_i i hi
  split at h
  ·rename_i v hv
   exact ⟨v, fun w => PN hi hv, fun im fm => Cd.cv h⟩
  ·simp at h
 ·simp at h
def Oq (ks : List Int) {α : Type} (es : List (List Int × α)) (es' : Array MapEntry) (z : Value) : Value × Bool := match AN ks es 0 with
 | some p => ((es'.getD p.1 default).val, true)
 | none => (z, false)
theorem Q4 {P : Program} {t key e : TypeId} {n : Nat} {α : Type} (hu : P.underlying t = some (.map key e)) (hkn : f9 P key = some n) {mv kv zv : Value} {ks : List Int} (hkv : Ww n ks kv)
  (hz : ∀ w : World, (zeroValue e).run P w = .ok zv w) {es' : Array MapEntry} (hm : (mv = .map none ∧ es' = #[]) ∨ ∃ b c, mv = .map (some b) ∧ w.heap[b]? = some (.map es' c))
  {es : List (List Int × α)} (hn : es'.size = es.length) (hk : ∀ i p, es[i]? = some p → Ww n p.1 (es'.getD i default).key) (ok : Bool) :
  (Instr.lookup t mv kv ok).run P w = .ok (if ok then .tuple #[(Oq ks es es' zv).1, .bool (Oq ks es es' zv).2] else (Oq ks es es' zv).1) w := by
 have hfk := Fj (w := w) hkn hkv es'.toList es (by simpa using hn) (QG hk)
 have hck : ∀ em, (Instr.checkKey em 10000 key kv).run P w = .ok () w := fun em => FB hkn hkv
 rcases hm with ⟨rfl, rfl⟩ | ⟨b, c, rfl, hb⟩
 ·simp only [Instr.lookup, Sem.run_bind, Ae hu, Result.andThen_ok, Sem.run_pure, hck, hfk]
  unfold Oq
  cases hg : AN ks es 0 with
  | none => simp only [Option.map_none, Sem.run_bind, hz, Result.andThen_ok, Sem.run_pure]
  | some p =>
   have : es = [] := List.length_eq_zero_iff.1 (by simpa using hn.symm)
   subst this; simp [AN] at hg
 ·simp only [Instr.lookup, Sem.run_bind, Ae hu, Result.andThen_ok, Sem.run_pure, Jx hb, hck, hfk]
  unfold Oq
  cases hg : AN ks es 0 with
  | none => simp only [Option.map_none, Sem.run_bind, hz, Result.andThen_ok, Sem.run_pure]
  | some p => simp only [Option.map_some, pure_bind, Sem.run_pure, SB]
theorem mH {t key e : TypeId} {n : Nat} {mo ko : Operand} {m k : Opd} {ok : Bool} {z : DV} {o : Oper} (h : AV T g w tss s ts) (hd : ∀ d, dst = some d → d < ts.size)
  (hu : T.P.underlying t = some (.map key e)) (hkn : f9 T.P key = some n) (hm : As mo = some m) (hk : As ko = some k) (hz : SC T.P e = some z)
  (ho : o.op = .lookup t mo ko ok) (he : evalOp T.LP C gi dst (.lookup n m k ok z) s = some s') :
  Bd T g w tss s s' ts dst gi ((execOp (⟨ts, df⟩ : Act).eval o).run T.P w) := by
 simp only [evalOp] at he
 have hM := h.val (df := df) hm
 have hK := h.val (df := df) hk
 obtain ⟨zv, hzr, hzd⟩ := Uw hz
 split at he
 ·simp at he
 ·rename_i ks hks
  have hkv := hK.key hks
  have fin : ∀ (r : Option LV) (a : Value × Bool), a.2 = r.isSome → Bm g a.1 (r.getD (.d z)) → (r.getD (.d z)).cold = true →
    (execOp (⟨ts, df⟩ : Act).eval o).run T.P w = .ok (.value (if ok then .tuple #[a.1, .bool a.2] else a.1)) w →
    (if ok = true then s.put dst (LV.norm (.tup [r.getD (.d z), .d (.bool r.isSome)])) else s.put dst (r.getD (.d z))) = some s' →
    Bd T g w tss s s' ts dst gi ((execOp (⟨ts, df⟩ : Act).eval o).run T.P w) := by
   intro r a ha hr hc hrun hp
   cases hok : ok
   ·rw [hok] at hp hrun
    exact A8 h hd hrun hp hr hc
   ·rw [hok] at hp hrun
    refine A8 h hd hrun hp (Bm.norm (.tup _ _ rfl fun i c hc' => ?_)) (C3 (by show (List.all [_, _] fun c => !LV.isHot c) = true; rw [List.all_cons, Dt hc]; rfl))
    match i, hc' with
    | 0, hc' => simp only [List.getElem?_cons_zero, Option.some.injEq] at hc'; subst hc'; exact hr
    | 1, hc' =>
     simp only [List.getElem?_cons_succ, List.getElem?_cons_zero, Option.some.injEq] at hc'; subst hc'
     rw [← ha]; exact .d (.bool _)
    | i + 2, hc' => simp at hc'
  have hex : ∀ {v : Value}, (Instr.lookup t ((⟨ts, df⟩ : Act).eval mo) ((⟨ts, df⟩ : Act).eval ko) ok).run T.P w = .ok v w → (execOp (⟨ts, df⟩ : Act).eval o).run T.P w = .ok (.value v) w := by
   intro v hv
   simp only [execOp, ho, Sem.run_bind, hv, Result.andThen_ok, Sem.run_pure]
  split at he
  ·rename_i j tm g' hmv
   rw [hmv] at hM
   obtain ⟨b, hvm, hgb⟩ := hM.mref'
   split at he
   ·rename_i es hes
    obtain ⟨hat, b', es', hval, hgb', how, hheap, hf, hn, hborn, hkk, hrr⟩ := h.entries hes
    rw [hgb] at hgb'
    simp only [Option.some.injEq] at hgb'
    subst hgb'
    have hrun := hex (Q4 (w := w) hu hkn hkv hzr (.inr ⟨b, _, hvm, hheap⟩) hn hkk ok)
    refine fin _ _ ?_ ?_ ?_ hrun he
    ·unfold Oq; cases AN ks es 0 <;> rfl
    ·unfold Oq
     cases hg : AN ks es 0 with
     | none => exact .d (hzd _ _)
     | some p =>
      obtain ⟨_, hp⟩ := FN hg
      exact ((hrr p.1 _ (by simpa using hp)).1).copy
    ·cases AN ks es 0 with
     | none => rfl
     | some p => exact Ht _
   ·simp at he
  ·rename_i n' es hmv
   rw [hmv] at hM
   split at he
   ·rename_i hn'
    subst hn'
    have hM' := hM.dinv
    generalize hvm : (⟨ts, df⟩ : Act).eval mo = vm at hM'
    cases hM' with
    | fmap b _ es' _ hf hn hkk hrr =>
     obtain ⟨c, hheap⟩ := h.winv.fm _ _ hf
     have hrun := hex (Q4 (w := w) hu hkn hkv hzr (.inr ⟨b, c, hvm, hheap⟩) hn hkk ok)
     refine fin _ _ ?_ ?_ ?_ hrun he
     ·unfold Oq; cases AN ks es 0 <;> rfl
     ·unfold Oq
      cases hg : AN ks es 0 with
      | none => exact .d (hzd _ _)
      | some p =>
       obtain ⟨_, hp⟩ := FN hg
       exact .d (hrr p.1 _ (by simpa using hp))
     ·cases AN ks es 0 with
      | none => rfl
      | some p => rfl
   ·simp at he
  ·rename_i hmv
   rw [hmv] at hM
   have hM' := hM.dinv
   generalize hvm : (⟨ts, df⟩ : Act).eval mo = vm at hM'
   cases hM'
   have hrun := hex (Q4 (w := w) (α := DV) (es := []) (es' := #[]) hu hkn hkv hzr (.inl ⟨hvm, rfl⟩) rfl (fun i p hp => by simp at hp) ok)
   exact fin none _ rfl (.d (hzd _ _)) rfl hrun he
  ·simp at he
theorem AV.coolMap (h : AV T g w tss s ts) {j t gn n i : Nat} {es : List (List Int × LV)} (hc : s.entries j t gn n = some es) {key : List Int} {x : LV} (hcell : es[i]? = some (key, x)) (p : DR) :
  ∃ b es' g', g.gb gn = some b ∧ w.heap[b]? = some (.map es' es'.size) ∧ es'.size = es.length ∧ (∀ i, i < es'.size → (es'.getD i default).born = i) ∧
   (∀ i p, es[i]? = some p → Ww n p.1 (es'.getD i default).key) ∧ N7 g w g' w ∧ g'.gb = g.gb ∧
   AV T g' w tss (s.setAt j t (.mapo gn n (es.set i (key, x.cool)))) ts ∧ Bm g' (es'.getD i default).val x ∧ zu g' w p (es'.getD i default).val x := by
 obtain ⟨hat, b, es', hval, hgb, how, hheap, hf, hn, hborn, hkk, hrr⟩ := h.entries hc
 obtain ⟨hr, hown⟩ := hrr i _ hcell
 have fin : ∀ g' : Gh, g.Le g' → g'.gb = g.gb → g'.ow b = some (.slot j t 0) → g'.fm b = none → I2 T g' w s.ctr → (∀ c q, g.ow c = some q → q ≠ .slot j t (i + 1) → NQ g w g' w c) →
   AV T g' w tss (s.setAt j t (.mapo gn n (es.set i (key, x.cool)))) ts := by
  intro g' hle hgbe hgo hgf hW hk
  refine h.setAt hat hW hle (fun c q hcq hq => hk c q hcq (hq _)) ?_
  rw [hval]
  refine .mapo (by rw [hgbe]; exact hgb) hgo hheap hgf (by simpa using hn) hborn (fun q p hq => ?_) fun q p hq => ?_
  ·rw [KH] at hq
   split at hq
   ·rename_i hc'; obtain ⟨rfl, _⟩ := hc'
    simp only [Option.some.injEq] at hq; subst hq; have := hkk i _ hcell; exact this
   ·split at hq
    ·simp at hq
    ·exact hkk q p hq
  ·rw [KH] at hq
   split at hq
   ·rename_i hc'; obtain ⟨rfl, _⟩ := hc'
    simp only [Option.some.injEq] at hq; subst hq
    exact ⟨(hr.mono hle).cool, zu.of_cold (WQ _)⟩
   ·split at hq
    ·simp at hq
    ·rename_i hne
     refine ⟨(hrr q p hq).1.mono hle, (hrr q p hq).2.keep fun b' hb' => hk b' _ hb' fun e => ?_⟩
     simp only [DR.slot.injEq] at e
     omega
 by_cases hhot : x.isHot = true
 ·cases x <;> simp only [LV.isHot, Bool.false_eq_true] at hhot
  rename_i z xs
  obtain ⟨b2, o2, cap, hv, hb2, hi2, cells, e2, hh2, hcap⟩ := hown
  have hne : b ≠ b2 := fun e => by subst e; rw [how] at hb2; simp at hb2
  have hl := g.own_le b2 p
  refine ⟨b, es', g.own b2 p, hgb, hheap, hn, hborn, hkk, O6 hb2, rfl, fin _ hl rfl (by simp [Gh.own, hne, how]) hf (h.winv.own (h.winv.ow _ _ hb2)) (fun c q hcq hq => IU g w b2 p c fun e => ?_), hr.mono hl,
   ⟨b2, o2, cap, hv, by simp [Gh.own], hi2, cells, e2, hh2, hcap⟩⟩
  subst e; rw [hb2] at hcq; simp only [Option.some.injEq] at hcq; exact hq hcq.symm
 ·exact ⟨b, es', g, hgb, hheap, hn, hborn, hkk, .refl g w, rfl, fin g (.refl g) rfl how hf h.winv fun c q _ _ => .refl g w c, hr, zu.of_cold (by simpa using hhot)⟩
theorem j6 {j d : Nat} {u v : Value} {x y : LV} (hx : zu g w (.slot j d 1) u x) (hy : y.isHot = false) : GK g w j d (.tuple #[u, v]) (.tup [x, y]) := by
 refine ⟨_, rfl, fun i c hc => ?_⟩
 match i, hc with
 | 0, hc => simp only [List.getElem?_cons_zero, Option.some.injEq] at hc; subst hc; exact hx
 | 1, hc =>
  simp only [List.getElem?_cons_succ, List.getElem?_cons_zero, Option.some.injEq] at hc; subst hc
  exact zu.of_cold hy
 | i + 2, hc => simp at hc
theorem jQ {u v : Value} {x y : LV} (hx : Bm g u x) (hy : Bm g v y) : Bm g (.tuple #[u, v]) (.tup [x, y]) := by
 refine .tup _ _ rfl fun i c hc => ?_
 match i, hc with
 | 0, hc => simp only [List.getElem?_cons_zero, Option.some.injEq] at hc; subst hc; exact hx
 | 1, hc => simp only [List.getElem?_cons_succ, List.getElem?_cons_zero, Option.some.injEq] at hc; subst hc; exact hy
 | i + 2, hc => simp at hc
theorem iJ {α : Type} [Inhabited α] (a : Array α) (i : Nat) (f : α → α) (h : f (a.getD i default) = a.getD i default) : a.modify i f = a := by
 apply Array.ext
 ·simp
 ·intro k h1 h2
  rw [Array.getElem_modify]
  split
  ·rename_i e; subst e
   simp only [Array.getD, h2, dif_pos, Array.getInternal_eq_getElem] at h
   exact h
  ·rfl
theorem lg {t key e : TypeId} {n : Nat} {mo ko : Operand} {m k : Opd} {z : DV} {o : Oper} (h : AV T g w tss s ts) (hd : ∀ d, dst = some d → d < ts.size)
  (hu : T.P.underlying t = some (.map key e)) (hkn : f9 T.P key = some n) (hm : As mo = some m) (hk : As ko = some k) (hz : SC T.P e = some z)
  (ho : o.op = .mapEntry t mo ko) (he : evalOp T.LP C gi dst (.mentry n m k z) s = some s') :
  Bd T g w tss s s' ts dst gi ((execOp (⟨ts, df⟩ : Act).eval o).run T.P w) := by
 simp only [evalOp] at he
 have hM := h.val (df := df) hm
 have hK := h.val (df := df) hk
 obtain ⟨zv, hzr, hzd⟩ := Uw hz
 split at he
 ·rename_i j tm g' ks hmv hks
  rw [hmv] at hM
  obtain ⟨b, hvm, hgb⟩ := hM.mref'
  have hkv := hK.key hks
  split at he
  ·rename_i es hes
   split at he
   ·rename_i i v hg
    obtain ⟨_, hp⟩ := FN hg
    simp only [Nat.sub_zero] at hp
    obtain ⟨b', es', g1, hgb', hheap, hn, hborn, hkk, hkept, hgbe, hinv, hrep, hown⟩ := h.coolMap hes hp (.slot s.low.length (dst.getD 0) 1)
    rw [hgb] at hgb'
    simp only [Option.some.injEq] at hgb'
    subst hgb'
    have hil : i < es'.size := by rw [hn]; exact (List.getElem?_eq_some_iff.1 hp).1
    have hfk := Fj (w := w) hkn hkv es'.toList es (by simpa using hn) (QG hkk)
    rw [hg] at hfk
    simp only [Option.map_some, SB] at hfk
    have hold := hkk i _ hp
    have hgd : ((es'[i]?).map (·.key)).getD ((⟨ts, df⟩ : Act).eval ko) = (es'.getD i default).key := by simp [hil, Array.getD]
    have hbd : ((es'[i]?).map (fun x => (x.born : Int))).getD 0 = (i : Int) := by
     have := hborn i hil
     simp [Array.getD, hil] at this
     simp [hil, this]
    have hsame : es'.modify i (fun e => { e with key := (⟨ts, df⟩ : Act).eval ko }) = es' := iJ _ _ _ (by
     have : (⟨ts, df⟩ : Act).eval ko = (es'.getD i default).key := by rw [hold.2, hkv.2]
     rw [this])
    have hrun : (execOp (⟨ts, df⟩ : Act).eval o).run T.P w = .ok (.value (.tuple #[(es'.getD i default).val, .int .i64 i])) w := by
     simp only [execOp, ho, Instr.mapEntry, hvm, Sem.run_bind, Ae hu, Result.andThen_ok, Jx hheap, FB hkn hkv, hfk, hgd, Instr.keyThatStays, Rh hold hkv, if_true,
      Sem.run_pure, Js hheap, hsame, bD hheap, hbd]
     rfl
    refine ⟨g1, w, _, .inl hrun, hkept, hinv.put he hd (jQ hrep (.d (.int _))) fun d hdd => ?_, fun n _ _ => by rw [hgbe]⟩
    subst hdd
    rw [Yw]
    exact j6 hown rfl
   ·rename_i hg
    obtain ⟨hat, b', es', hval, hgb', how, hheap, hf, hn, hborn, hkk, hrr⟩ := h.entries hes
    rw [hgb] at hgb'
    simp only [Option.some.injEq] at hgb'
    subst hgb'
    have hfk := Fj (w := w) hkn hkv es'.toList es (by simpa using hn) (QG hkk)
    rw [hg] at hfk
    simp only [Option.map_none] at hfk
    have hrun : (execOp (⟨ts, df⟩ : Act).eval o).run T.P w = .ok (.value (.tuple #[zv, .int .i64 es.length])) (AE w b (.map (es'.push { key := (⟨ts, df⟩ : Act).eval ko, val := zv, born := es'.size }) (es'.size + 1))) := by
     simp only [execOp, ho, Instr.mapEntry, hvm, Sem.run_bind, Ae hu, Result.andThen_ok, Jx hheap, FB hkn hkv, hfk, hzr, Sem.run_pure, Js hheap]
     rw [← hn]
     rfl
    have hnew : ∀ (q : Nat) (p : List Int × LV), (es ++ [(ks, (.d z : LV))])[q]? = some p → (q = es.length ∧ p = (ks, .d z)) ∨ (q < es.length ∧ es[q]? = some p) := fun q p hq => by
     by_cases hql : q < es.length
     ·rw [List.getElem?_append_left hql] at hq; exact .inr ⟨hql, hq⟩
     ·have := (List.getElem?_eq_some_iff.1 hq).1
      simp only [List.length_append, List.length_singleton] at this
      obtain rfl : q = es.length := by omega
      simp at hq
      exact .inl ⟨rfl, hq.symm⟩
    have := h.setMap hes (es1' := es'.push { key := (⟨ts, df⟩ : Act).eval ko, val := zv, born := es'.size }) (es1 := es ++ [(ks, .d z)]) (by simp [hn])
     (fun q hq => by
      rw [Jt]
      by_cases hc : q = es'.size
      ·rw [if_pos hc]; exact hc.symm
      ·rw [if_neg hc]; exact hborn q (by simp only [Array.size_push] at hq; omega)) (fun q p hq => by
      rw [Jt]
      rcases hnew q p hq with ⟨rfl, rfl⟩ | ⟨hl, hq⟩
      ·rw [if_pos hn.symm]; exact hkv
      ·rw [if_neg (by omega)]; exact hkk q p hq) (fun q p hq => by
      rw [Jt]
      rcases hnew q p hq with ⟨rfl, rfl⟩ | ⟨hl, hq⟩
      ·rw [if_pos hn.symm]; exact ⟨.d (hzd _ _), trivial⟩
      ·rw [if_neg (by omega)]; exact hrr q p hq) (b := b) hgb
    rw [Array.size_push] at this
    refine ⟨g, _, _, .inl hrun, this.1, this.2.put he hd (jQ (.d (hzd _ _)) (.d (.int _))) fun d hdd => j6 trivial rfl, fun n _ _ => rfl⟩
  ·simp at he
 ·simp at he
theorem fZ (es' : Array MapEntry) (hb : ∀ i, i < es'.size → (es'.getD i default).born = i) {i : Nat} (hi : i < es'.size) : es'.findIdx? (fun e => (e.born : Int) == (i : Int)) = some i := by
 rw [Array.findIdx?_eq_some_iff_getElem]
 have h0 : ∀ k (hk : k < es'.size), es'[k].born = k := fun k hk => by simpa [Array.getD, hk] using hb k hk
 refine ⟨hi, by simp [h0 i hi], fun k hk => ?_⟩
 have := h0 k (by omega)
 simp [this]; omega
theorem lj {t : TypeId} {n : Nat} {mo io vo : Operand} {m i v : Opd} {o : Oper} (h : AV T g w tss s ts) (hd : dst = none)
  (hm : As mo = some m) (hi : As io = some i) (hv : As vo = some v)
  (ho : o.op = .entryStore t mo io vo) (he : evalOp T.LP C gi dst (.mstore n m i v) s = some s') :
  Bd T g w tss s s' ts dst gi ((execOp (⟨ts, df⟩ : Act).eval o).run T.P w) := by
 subst hd
 simp only [evalOp] at he
 have hM := h.val (df := df) hm
 have hI := h.val (df := df) hi
 split at he
 ·rename_i j tm g' a hmv ha
  rw [hmv] at hM
  obtain ⟨b, hvm, hgb⟩ := hM.mref'
  have hiv := hI.nat ha
  split at he
  ·rename_i es hes
   obtain ⟨g1, h1, h2, h3, h4, h5, h6, h7, h8, h9, h10⟩ := h.takeTo (df := df) hv (.slot j tm (a + 1))
   obtain ⟨hat, b', es', hval, hgb', how, hheap, hf, hn, hborn, hkk, hrr⟩ := h2.entries hes
   rw [h6, hgb] at hgb'
   simp only [Option.some.injEq] at hgb'
   subst hgb'
   split at he
   ·rename_i ks vold hp
    simp only [Option.some.injEq] at he
    subst he
    have hil : a < es'.size := by rw [hn]; exact (List.getElem?_eq_some_iff.1 hp).1
    have hrun : (execOp (⟨ts, df⟩ : Act).eval o).run T.P w = .ok .skip (AE w b (.map (es'.modify a fun e => { e with val := (⟨ts, df⟩ : Act).eval vo }) es'.size)) := by
     simp only [execOp, ho, Instr.entryStore, hvm, Sem.run_bind, Jx hheap, Result.andThen_ok, hiv, asInt, asIntOf, Sem.run_pure, fZ es' hborn hil, Js hheap]
    have := h2.setMap hes (es1' := es'.modify a fun e => { e with val := (⟨ts, df⟩ : Act).eval vo }) (es1 := es.set a (ks, (s.take T.LP v).1)) (by simpa using hn)
     (fun q hq => by
      rw [HC]
      simp only [Array.size_modify] at hq
      have := hborn q hq
      by_cases hc : a = q ∧ q < es'.size
      ·rw [if_pos hc]; exact this
      ·rw [if_neg hc]; exact this) (fun q p hq => by
      rw [HC]
      rw [KH] at hq
      split at hq
      ·rename_i hc; obtain ⟨rfl, hc⟩ := hc
       simp only [Option.some.injEq] at hq; subst hq
       rw [if_pos ⟨rfl, by omega⟩]; have := hkk a _ hp; exact this
      ·split at hq
       ·simp at hq
       ·rename_i hne
        rw [if_neg (fun hc => hne hc.1)]; exact hkk q p hq) (fun q p hq => by
      rw [HC]
      rw [KH] at hq
      split at hq
      ·rename_i hc; obtain ⟨rfl, hc⟩ := hc
       simp only [Option.some.injEq] at hq; subst hq
       rw [if_pos ⟨rfl, by omega⟩]; exact ⟨h1, h9⟩
      ·split at hq
       ·simp at hq
       ·rename_i hne
        rw [if_neg (fun hc => hne hc.1)]; exact hrr q p hq) (b := b) (by rw [h6]; exact hgb)
    rw [Array.size_modify] at this
    exact ⟨g1, _, Go.undef, .inr ⟨hrun, rfl⟩, h5.trans this.1, this.2, fun n _ _ => by rw [h6]⟩
   ·simp at he
  ·simp at he
 ·simp at he
end
end Go.Lf
namespace Go.Lf
open Go
section
variable {T : Tables} {g : Gh} {w : World} {tss : List (Array Value)} {s s' : St} {ts : Array Value} {dst : Option Nat} {gi : Nat} {df : List Deferred} {C : AM}
def zn.isCall : zn → Bool
 | .call _ _ _ => true
 | _ => false
theorem t9 {c : Call} {xs : Array Operand} {us : Array TypeId} {k : Callee} (h1 : c.callee = k) (h2 : c.args = xs) (h3 : c.argTypes = us) : c = { callee := k, args := xs, argTypes := us } := by
 cases c; simp only at h1 h2 h3; subst h1; subst h2; subst h3; rfl
theorem yr {α : Type} {a : Array α} {x : α} (h : a[0]? = some x) (hs : a.size = 1) : a = #[x] := by
 apply Array.ext
 ·simpa using hs
 ·intro i h1 h2
  have : i = 0 := by simp at h2; exact h2
  subst this
  rw [Array.getElem?_eq_getElem h1] at h
  simpa using h
theorem yh {α : Type} {a : Array α} {x y : α} (h : a[0]? = some x) (h' : a[1]? = some y) (hs : a.size = 2) : a = #[x, y] := by
 apply Array.ext
 ·simpa using hs
 ·intro i h1 h2
  simp only [List.size_toArray, List.length_cons, List.length_nil] at h2
  match i, h1 with
  | 0, h1 => rw [Array.getElem?_eq_getElem h1] at h; simpa using h
  | 1, h1 => rw [Array.getElem?_eq_getElem h1] at h'; simpa using h'
  | i + 2, _ => omega
theorem xB {a : zw} {o : Oper} {lop : zn} (h : AV T g w tss s ts) (hd : ∀ d, dst = some d → d < ts.size) (hgi : gi < s.ctr) (hg : g.gb gi = none)
  (htr : jV T.P a o.op = some lop) (hmute : lop.mute = true → dst = none) (hcall : lop.isCall = false) (he : evalOp T.LP C gi dst lop s = some s') :
  Bd T g w tss s s' ts dst gi ((execOp (⟨ts, df⟩ : Act).eval o).run T.P w) := by
 cases hop : o.op <;> rw [hop] at htr <;> simp only [jV, bind, Option.bind_eq_some_iff, Option.some.injEq, reduceCtorEq] at htr
 case move x =>
  obtain ⟨y, hy, rfl⟩ := htr
  cases ht : a.take <;> rw [ht] at he
  ·exact (jI h hd hy (.inl hop) he)
  ·exact (QK h hd hy (.inl hop) he)
 case assign x =>
  obtain ⟨y, hy, rfl⟩ := htr
  cases ht : a.take <;> rw [ht] at he
  ·exact (jI h hd hy (.inr hop) he)
  ·exact (QK h hd hy (.inr hop) he)
 case pick c x y =>
  obtain ⟨c', hc, x', hx, y', hy, rfl⟩ := htr
  exact (qc h hd hc hx hy hop he)
 case alloc t =>
  obtain ⟨zs, hz, rfl⟩ := htr
  exact (oQ h hd hgi hg hz hop he)
 case box t x =>
  obtain ⟨k, hk, x', hx, rfl⟩ := htr
  exact (tO h hd hgi hg hx hop he)
 case build t ps =>
  obtain ⟨zs, hz, htr⟩ := htr
  split at htr
  ·rename_i fs hu
   split at htr
   ·rename_i hall
    simp only [Option.bind_eq_some_iff, Option.some.injEq] at htr
    obtain ⟨qs, hq, rfl⟩ := htr
    exact (d6 h hd hz hu (.inl ⟨fs, rfl, rfl, hall⟩) hq hop he)
   ·simp at htr
  ·rename_i n e hu
   simp only [Option.bind_eq_some_iff, Option.some.injEq] at htr
   obtain ⟨k, hk, qs, hq, rfl⟩ := htr
   exact (d6 h hd hz hu (.inr ⟨n, e, k, rfl, hk, rfl⟩) hq hop he)
  ·simp at htr
 case buildSlice t len ps =>
  split at htr
  ·rename_i e hu
   simp only [Option.bind_eq_some_iff] at htr
   obtain ⟨zs, hz, k, hk, htr⟩ := htr
   split at htr
   ·simp at htr
   ·rename_i hc
    simp only [Option.bind_eq_some_iff, Option.some.injEq] at htr
    obtain ⟨qs, hqs, rfl⟩ := htr
    exact (uT h hd hu hz hk (fun e => hc (.inl e)) (fun e => hc (.inr e)) hqs hop he)
  ·simp at htr
 case load t p =>
  obtain ⟨k, hk, p', hp, rfl⟩ := htr
  cases ht : a.take <;> rw [ht] at he
  ·exact (jU h hd hk hp hop he)
  ·exact (cJ h hd hk hp hop he)
 case store t p x =>
  obtain ⟨k, hk, p', hp, x', hx, rfl⟩ := htr
  exact (mi h (hmute rfl) hk hp hx hop he)
 case fieldAddr t x f =>
  split at htr
  ·rename_i fs hu
   split at htr
   ·rename_i off n hp
    split at htr
    ·simp at htr
    ·rename_i hn
     simp only [Option.bind_eq_some_iff, Option.some.injEq] at htr
     obtain ⟨x', hx, rfl⟩ := htr
     exact (pO h hd hu hp hn hx hop he)
   ·simp at htr
  ·simp at htr
 case field t x f =>
  split at htr
  ·rename_i fs hu
   split at htr
   ·rename_i fld hf
    simp only [Option.bind_eq_some_iff, Option.some.injEq] at htr
    obtain ⟨k, hk, x', hx, rfl⟩ := htr
    exact (nO h hd hu hf hk hx hop he)
   ·simp at htr
  ·simp at htr
 case indexAddr t x i =>
  split at htr
  ·rename_i e hu
   simp only [Option.bind_eq_some_iff, Option.some.injEq] at htr
   obtain ⟨k, hk, x', hx, i', hi, rfl⟩ := htr
   exact (lz h hd hu hk hx hi hop he)
  ·rename_i n e hu
   simp only [Option.bind_eq_some_iff, Option.some.injEq] at htr
   obtain ⟨k, hk, x', hx, i', hi, rfl⟩ := htr
   exact (lF h hd hu hk hx hi hop he)
  ·simp at htr
 case index t x i =>
  split at htr
  ·rename_i n e hu
   simp only [Option.bind_eq_some_iff, Option.some.injEq] at htr
   obtain ⟨k, hk, x', hx, i', hi, rfl⟩ := htr
   exact (nk h hd hu hk hx hi hop he)
  ·simp at htr
 case binOp op t x y u =>
  split at htr
  ·simp only [Option.bind_eq_some_iff, Option.some.injEq] at htr
   obtain ⟨x', hx, y', hy, rfl⟩ := htr
   exact (uJ h hd hx hy hop he)
  ·rename_i hu
   split at htr
   ·simp only [Option.bind_eq_some_iff, Option.some.injEq] at htr
    obtain ⟨x', hx, y', hy, rfl⟩ := htr
    exact (oc h hd hx hy hu (by simpa using hop) he)
   ·simp only [Option.bind_eq_some_iff, Option.some.injEq] at htr
    obtain ⟨x', hx, y', hy, rfl⟩ := htr
    exact (oc h hd hx hy hu (by simpa using hop) he)
   ·simp at htr
  ·rename_i fs hu
   split at htr
   ·rename_i n hf
    split at htr
    ·simp only [Option.bind_eq_some_iff, Option.some.injEq] at htr
     obtain ⟨x', hx, y', hy, rfl⟩ := htr
     exact (cO h hd hx hy hf hu rfl (by simpa using hop) he)
    ·simp only [Option.bind_eq_some_iff, Option.some.injEq] at htr
     obtain ⟨x', hx, y', hy, rfl⟩ := htr
     exact (cO h hd hx hy hf hu rfl (by simpa using hop) he)
    ·simp at htr
   ·simp at htr
  ·rename_i fs hu
   split at htr
   ·rename_i n hf
    split at htr
    ·simp only [Option.bind_eq_some_iff, Option.some.injEq] at htr
     obtain ⟨x', hx, y', hy, rfl⟩ := htr
     exact (cO h hd hx hy hf hu rfl (by simpa using hop) he)
    ·simp only [Option.bind_eq_some_iff, Option.some.injEq] at htr
     obtain ⟨x', hx, y', hy, rfl⟩ := htr
     exact (cO h hd hx hy hf hu rfl (by simpa using hop) he)
    ·simp at htr
   ·simp at htr
  ·simp at htr
 case unOp op t x =>
  obtain ⟨x', hx, rfl⟩ := htr
  exact (xA h hd hx hop he)
 case makeFunc f first cap =>
  cases f <;> simp only [Option.bind_eq_some_iff, Option.some.injEq, reduceCtorEq] at htr
  obtain ⟨a', ha, b', hb, rfl⟩ := htr
  exact (qq h hd ha hb hop he)
 case makeMap t r =>
  cases r <;> simp only [reduceCtorEq] at htr
  split at htr
  ·rename_i key e hu
   simp only [Option.bind_eq_some_iff, Option.some.injEq] at htr
   obtain ⟨n, hn, rfl⟩ := htr
   exact (nT h hd hgi hg hop he)
  ·simp at htr
 case insert t m k v =>
  split at htr
  ·rename_i key e hu
   simp only [Option.bind_eq_some_iff, Option.some.injEq] at htr
   obtain ⟨n, hn, m', hm, k', hk, v', hv, rfl⟩ := htr
   exact (Ze h (hmute rfl) hu hn hm hk hv (.inl hop) he)
  ·simp at htr
 case mapUpdate t m k v =>
  split at htr
  ·rename_i key e hu
   simp only [Option.bind_eq_some_iff, Option.some.injEq] at htr
   obtain ⟨n, hn, m', hm, k', hk, v', hv, rfl⟩ := htr
   exact (Ze h (hmute rfl) hu hn hm hk hv (.inr hop) he)
  ·simp at htr
 case lookup t m k ok =>
  split at htr
  ·rename_i key e hu
   simp only [Option.bind_eq_some_iff, Option.some.injEq] at htr
   obtain ⟨n, hn, m', hm, k', hk, z, hz, rfl⟩ := htr
   exact (mH h hd hu hn hm hk hz hop he)
  ·simp at htr
 case mapEntry t m k =>
  split at htr
  ·rename_i key e hu
   simp only [Option.bind_eq_some_iff, Option.some.injEq] at htr
   obtain ⟨n, hn, m', hm, k', hk, z, hz, rfl⟩ := htr
   exact (lg h hd hu hn hm hk hz hop he)
  ·simp at htr
 case entryStore t m i x =>
  split at htr
  ·rename_i key e hu
   simp only [Option.bind_eq_some_iff, Option.some.injEq] at htr
   obtain ⟨n, hn, m', hm, i', hi, x', hx, rfl⟩ := htr
   exact (lj h (hmute rfl) hm hi hx hop he)
  ·simp at htr
 case slice t x lo hi mx =>
  split at htr
  ·rename_i e hu
   simp only [Option.bind_eq_some_iff, Option.some.injEq] at htr
   obtain ⟨k, hk, x', hx, lo', hlo, hi', hhi, mx', hmx, rfl⟩ := htr
   exact (nA h hd hu hk hx hlo hhi hmx hop he)
  ·simp at htr
 case extract x i =>
  obtain ⟨x', hx, rfl⟩ := htr
  exact (gu h hd hx hop he)
 case call c =>
  split at htr
  ·simp only [Option.bind_eq_some_iff, Option.some.injEq] at htr
   obtain ⟨_, _, _, _, rfl⟩ := htr
   simp [zn.isCall] at hcall
  ·rename_i hc
   split at htr
   ·rename_i t x ht hx hsz
    split at htr
    ·rename_i e hu
     simp only [Option.bind_eq_some_iff, Option.some.injEq] at htr
     obtain ⟨x', hx', rfl⟩ := htr
     exact (tK h hd hu hx' hop hc (yr hx hsz) ht he)
    ·rename_i n e hu
     simp only [Option.some.injEq] at htr
     subst htr
     refine (A8 h hd (v := .int .i64 n) ?_ he (.d (.int _)) rfl)
     simp [execOp, hop, resolve, hc, yr hx hsz, invoke, builtin, Builtin.len_, ht, Ae hu, goInt]
    ·simp at htr
   ·simp at htr
  ·rename_i hc
   split at htr
   ·rename_i t u x y ht hu' hx hy hs hs'
    split at htr
    ·rename_i e e' hu1 hu2
     simp only [Option.bind_eq_some_iff] at htr
     obtain ⟨k, hk, q, hq, zs, hz, htr⟩ := htr
     split at htr
     ·simp at htr
     ·rename_i hcc
      simp only [Option.bind_eq_some_iff, Option.some.injEq] at htr
      obtain ⟨x', hx', y', hy', rfl⟩ := htr
      have hc' := t9 hc (yh hx hy hs) (yh ht hu' hs')
      rw [hc'] at hop
      exact ku h hd hop hu1 hu2 hk hz hq (fun e => hcc (.inl e)) (fun e => hcc (.inr e)) hx' hy' he
    ·simp at htr
   ·simp at htr
  ·rename_i hc
   simp only [Option.bind_eq_some_iff, Option.some.injEq] at htr
   obtain ⟨xs, hx, rfl⟩ := htr
   exact (ZO h hd hx hop (by simpa using hc) he)
  ·rename_i hc
   simp only [Option.bind_eq_some_iff, Option.some.injEq] at htr
   obtain ⟨xs, hx, rfl⟩ := htr
   exact (ZO h hd hx hop (by simpa using hc) he)
  ·simp at htr
end
end Go.Lf
namespace Go.Lf
open Go
structure V2 (T : Tables) (g : Gh) (w : World) (ctr : Nat) (tss : List (Array Value)) (low' : List Fr) (ctr' : Nat) (g' : Gh) (w' : World) : Prop where
 winv : I2 T g' w' ctr'
 stack : Gk T g' w' tss low'
 kept : N7 g w g' w'
 gens : ∀ n, n < ctr → g'.gb n = g.gb n
 mono : ctr ≤ ctr'
structure Dk (g : Gh) (vs : Array Value) (xs : List LV) : Prop where
 size : vs.size = xs.length
 rep : ∀ (i : Nat) (x : LV), xs[i]? = some x → Bm g (vs.getD i Go.undef) x ∧ x.cold = true
def Lr (T : Tables) (C : AM) : Prop := ∀ f args low ctr v low' ctr', C.call f args low ctr = some (v, low', ctr') →
 (∃ fn, T.P.funcs[f]? = some fn ∧ fn.name ≠ "runtime.NumGoroutine" ∧ fn.body.isSome = true) ∧
 ∀ g w tss vargs, I2 T g w ctr → Gk T g w tss low → Dk g vargs args → ∀ cs, DL T.P (lone (Frame.enter T.P f vargs .normal) cs w) fun m' =>
  ∃ fr w' v' g', m' = lone fr cs w' ∧ fr.fn = f ∧ fr.leaving T.P w' (.returned v') ∧ Bm g' v' v ∧ v.cold = true ∧ V2 T g w ctr tss low' ctr' g' w'
def KO (T : Tables) (C : AM) : Prop := ∀ j gen args low ctr b low' ctr', C.round j gen args low ctr = some (b, low', ctr') →
 ∀ g w tss vargs l, I2 T g w ctr → Gk T g w tss low → Dk g vargs args → g.gb gen = some l →
  ∃ fid tmps as bd, (Instr.yield l vargs).run T.P w = .ok (.round l fid tmps as bd) w ∧ ∀ c cs, DL T.P (lone (Frame.round l fid tmps as bd .normal) (c :: cs) w) fun m' =>
   ∃ w' g', m' = lone (c.finish (.bool b)) cs w' ∧ V2 T g w ctr tss low' ctr' g' w'
theorem QO (ks : List Nat) (e : Env) (t : Nat) : (Env.keep ks e).get t = if t ∈ ks then e.get t else none := by
 unfold Env.keep
 induction ks with
 | nil => rfl
 | cons k ks ih =>
  rw [List.filterMap_cons]
  by_cases hk : k = t
  ·subst hk
   cases he : e.get k with
   | none =>
    simp only [Option.map_none, ih, he]
    split <;> simp
   | some s => simp [Env.get]
  ·have hm : t ∈ k :: ks ↔ t ∈ ks := ⟨fun h => (List.mem_cons.1 h).resolve_left fun h => hk h.symm, fun h => List.mem_cons_of_mem _ h⟩
   cases he : e.get k with
   | none => simp only [Option.map_none, ih, hm]
   | some s => simp only [Option.map_some, Env.get, hk, if_false, ih, hm]
section
variable {T : Tables} {g : Gh} {w : World} {tss : List (Array Value)} {s s' : St} {ts : Array Value} {dst : Option Nat} {gi : Nat} {df : List Deferred} {C : AM}
theorem SJ {P : Program} {w : World} {f : Nat} {fn : Func} {args : Array Value} (h : P.funcs[f]? = some fn) (hn : fn.name ≠ "runtime.NumGoroutine") (hb : fn.body.isSome = true) :
  (callFunc f args).run P w = .ok (.enter f args) w := by
 have hb' : fn.body.isNone = false := by cases h' : fn.body <;> simp_all
 have hn' : (fn.name == "runtime.NumGoroutine") = false := by simpa using hn
 simp only [callFunc, program, bind, Sem.bind, Sem.run, h, hn', Bool.false_eq_true, if_false, hb']
 rfl
theorem kO {P : Program} {w : World} {f : Nat} {fn : Func} {va vb : Array Value} {c : Call} {ρ : Operand → Value} {o : Oper} {fo : Operand} (ho : o.op = .call c) (hc : c.callee = .value fo)
  (hf : ρ fo = .func (.func f) va vb) (h : P.funcs[f]? = some fn) (hn : fn.name ≠ "runtime.NumGoroutine") (hb : fn.body.isSome = true) :
  (execOp ρ o).run P w = .ok (.enter f (va ++ c.args.map ρ ++ vb)) w := by
 simp only [execOp, ho, resolve, hc, hf, Deferred.ofValue, Sem.run_bind, Sem.run_pure, Result.andThen_ok, invoke, SJ h hn hb]
theorem RI {v : Value} {x : LV} {f : Nat} {a b : List LV} (h : Bm g v x) (ht : target x = some (f, a, b)) :
  ∃ va vb, v = .func (.func f) va vb ∧ Dk g va a ∧ Dk g vb b := by
 unfold target at ht
 split at ht
 ·rename_i f' a' b'
  simp only [Option.some.injEq, Prod.mk.injEq] at ht
  obtain ⟨rfl, rfl, rfl⟩ := ht
  have := h.dinv
  cases this with
  | fn _ va vb _ _ h1 h2 h3 h4 =>
   refine ⟨va, vb, rfl, ⟨by simpa using h1, fun i x hx => ?_⟩, ⟨by simpa using h2, fun i x hx => ?_⟩⟩
   ·simp only [List.getElem?_map, Option.map_eq_some_iff] at hx
    obtain ⟨y, hy, rfl⟩ := hx
    exact ⟨.d (h3 i y hy), rfl⟩
   ·simp only [List.getElem?_map, Option.map_eq_some_iff] at hx
    obtain ⟨y, hy, rfl⟩ := hx
    exact ⟨.d (h4 i y hy), rfl⟩
 ·rename_i f' a' b'
  simp only [Option.some.injEq, Prod.mk.injEq] at ht
  obtain ⟨rfl, rfl, rfl⟩ := ht
  cases h with
  | fn _ va vb _ _ h1 h2 hha hhb h3 h4 =>
   exact ⟨va, vb, rfl, ⟨h1, fun i x hx => ⟨h3 i x hx, hha x (List.mem_of_getElem? hx)⟩⟩, ⟨h2, fun i x hx => ⟨h4 i x hx, hhb x (List.mem_of_getElem? hx)⟩⟩⟩
 ·simp at ht
theorem Dk.append {vs us : Array Value} {xs ys : List LV} (h : Dk g vs xs) (h' : Dk g us ys) : Dk g (vs ++ us) (xs ++ ys) := by
 refine ⟨by simp [h.size, h'.size], fun i x hx => ?_⟩
 by_cases hi : i < xs.length
 ·rw [List.getElem?_append_left hi] at hx
  rw [Array.getD_eq_getD_getElem?, Array.getElem?_append_left (by rw [h.size]; exact hi), ← Array.getD_eq_getD_getElem?]
  exact h.rep i x hx
 ·rw [List.getElem?_append_right (by omega)] at hx
  rw [Array.getD_eq_getD_getElem?, Array.getElem?_append_right (by rw [h.size]; omega), h.size, ← Array.getD_eq_getD_getElem?]
  exact h'.rep _ x hx
end
end Go.Lf
namespace Go.Lf
open Go
def Gh.release (g : Gh) (k : Nat) (vis : List Nat) : Gh := { g with ow := fun b => match g.ow b with
 | some (.slot j t i) => if j = k ∧ t ∉ vis then none else some (.slot j t i)
 | p => p }
theorem eC {g : Gh} {k : Nat} {vis : List Nat} {b : Nat} {p : DR} (h : (g.release k vis).ow b = some p) : g.ow b = some p := by
 simp only [Gh.release] at h
 split at h
 ·rename_i j t i hb
  split at h
  ·simp at h
  ·rw [hb]; exact h
 ·exact h
theorem SI {g : Gh} {k : Nat} {vis : List Nat} {b : Nat} {p : DR} (h : g.ow b = some p) (hp : ∀ t i, p = .slot k t i → t ∈ vis) : (g.release k vis).ow b = some p := by
 simp only [Gh.release, h]
 cases p with
 | loop j => rfl
 | slot j t i =>
  simp only
  rw [if_neg]
  rintro ⟨rfl, hn⟩
  exact hn (hp t i rfl)
theorem RX {g : Gh} {k : Nat} {vis : List Nat} {b t i : Nat} (h : g.ow b = some (.slot k t i)) (ht : t ∉ vis) : (g.release k vis).ow b = none := by
 simp only [Gh.release, h]
 rw [if_pos ⟨by trivial, ht⟩]
theorem MY {g : Gh} {k : Nat} {vis : List Nat} {b : Nat} (h : g.ow b = none) : (g.release k vis).ow b = none := by
 simp only [Gh.release, h]
section
variable {T : Tables} {g : Gh} {w : World} {tss : List (Array Value)} {s s' : St} {ts : Array Value} {dst : Option Nat} {gi : Nat} {df : List Deferred} {C : AM}
theorem Qn (k : Nat) (vis : List Nat) : g.Le (g.release k vis) := ⟨fun _ _ _ h => h, fun _ _ h => h, fun _ _ h => h, fun _ _ h => h⟩
theorem I2.release {c : Nat} (h : I2 T g w c) (k : Nat) (vis : List Nat) : I2 T (g.release k vis) w c :=
 ⟨h.im, h.one, h.fm, fun b p hb => h.ow b p (eC hb), h.gb, h.lp, h.ctr, h.globs⟩
theorem AV.pushed (h : AV T g w tss s ts) (vis : List Nat) : Gk T (g.release s.low.length vis) w (tss ++ [ts]) (s.low ++ [{ env := s.env.keep vis, loop := none }]) := by
 refine ⟨by simp [h.stack.len], fun j ts' fr h1 h2 => ?_⟩
 by_cases hj : j < s.low.length
 ·rw [List.getElem?_append_left hj] at h2
  rw [List.getElem?_append_left (by rw [h.stack.len]; exact hj)] at h1
  refine (h.stack.fr j ts' fr h1 h2).keep (Qn _ _) fun b p hb hp => ⟨rfl, fun _ => rfl, rfl, ?_⟩
  rw [hb]
  refine SI hb fun t i e => ?_
  subst e
  simp only [DR.level] at hp
  omega
 ·have hl := (List.getElem?_eq_some_iff.1 h2).1
  simp only [List.length_append, List.length_singleton] at hl
  obtain rfl : j = s.low.length := by omega
  have h2' : fr = { env := s.env.keep vis, loop := none } := by simpa using h2.symm
  have h1' : ts' = ts := by
   rw [← h.stack.len] at h1; simpa using h1.symm
  subst h2'; subst h1'
  refine ⟨fun t sl hs => ?_, fun r hr => by simp at hr⟩
  simp only [QO] at hs
  split at hs
  ·rename_i ht
   exact (h.env t sl hs).keep (Qn _ _) fun b i hb => ⟨rfl, fun _ => rfl, rfl, by
    rw [hb]
    refine SI hb fun t' i' e => ?_
    simp only [DR.slot.injEq] at e
    rw [← e.2.1]; exact ht⟩
  ·simp at hs
def Gh.retake (g g1 : Gh) (k : Nat) (vis : List Nat) : Gh := { g1 with ow := fun b => match g.ow b with
 | some (.slot j t i) => if j = k ∧ t ∉ vis then some (.slot j t i) else g1.ow b
 | _ => g1.ow b }
theorem hO {g g1 : Gh} {k : Nat} {vis : List Nat} {b t i : Nat} (h : g.ow b = some (.slot k t i)) (ht : t ∉ vis) : (g.retake g1 k vis).ow b = some (.slot k t i) := by
 simp only [Gh.retake, h]
 rw [if_pos ⟨by trivial, ht⟩]
theorem MX (g g1 : Gh) (k : Nat) (vis : List Nat) (b : Nat) : (g.retake g1 k vis).ow b = g1.ow b ∨ ∃ t i, g.ow b = some (.slot k t i) ∧ t ∉ vis ∧ (g.retake g1 k vis).ow b = some (.slot k t i) := by
 simp only [Gh.retake]
 split
 ·rename_i j t i hb
  split
  ·rename_i hc
   obtain ⟨rfl, ht⟩ := hc
   exact .inr ⟨t, i, hb, ht, rfl⟩
  ·exact .inl rfl
 ·exact .inl rfl
theorem cf (g g1 : Gh) (k : Nat) (vis : List Nat) : g1.Le (g.retake g1 k vis) := ⟨fun _ _ _ h => h, fun _ _ h => h, fun _ _ h => h, fun _ _ h => h⟩
theorem AV.popped (h : AV T g w tss s ts) {vis : List Nat} {g1 : Gh} {w1 : World} {low' : List Fr} {c' : Nat} {fr : Fr} (hl : low'.length = s.low.length + 1) (hfr : low'.getLast? = some fr)
  (ha : V2 T (g.release s.low.length vis) w s.ctr (tss ++ [ts]) low' c' g1 w1) :
  AV T (g.retake g1 s.low.length vis) w1 tss { env := Env.merge vis s.env fr.env, low := low'.dropLast, ctr := c' } ts ∧ N7 g w (g.retake g1 s.low.length vis) w1 ∧
   ∀ n, n < s.ctr → (g.retake g1 s.low.length vis).gb n = g.gb n := by
 have hle := cf g g1 s.low.length vis
 have hrel : ∀ b t i, g.ow b = some (.slot s.low.length t i) → t ∉ vis → NQ g w (g.retake g1 s.low.length vis) w1 b ∧ g1.ow b = none := by
  intro b t i hb ht
  have hu := ha.kept.unch b (h.winv.ow _ _ hb) (RX hb ht)
  exact ⟨⟨hu.heap, hu.im, hu.fm, by rw [hO hb ht, hb]⟩, hu.ow.trans (RX hb ht)⟩
 have hun : ∀ b p, g1.ow b = some p → NQ g1 w1 (g.retake g1 s.low.length vis) w1 b := by
  intro b p hb
  refine ⟨rfl, fun _ => rfl, rfl, ?_⟩
  rcases MX g g1 s.low.length vis b with e | ⟨t, i, h1, h2, _⟩
  ·exact e
  ·rw [(hrel b t i h1 h2).2] at hb; simp at hb
 have hlast : low'[s.low.length]? = some fr := by
  rw [List.getLast?_eq_getElem?, hl] at hfr
  simpa using hfr
 have hlen : (low'.dropLast).length = s.low.length := by simp [hl]
 refine ⟨⟨⟨ha.winv.im, ha.winv.one, ha.winv.fm, fun b p hb => ?_, ha.winv.gb, ha.winv.lp, ha.winv.ctr, fun n => (ha.winv.globs n).mono hle.im hle.fm⟩, ⟨by rw [hlen, h.stack.len], fun j ts' fr' h1 h2 => ?_⟩, fun t sl hs => ?_⟩,
  ⟨⟨fun b i u hu => ha.kept.le.im b i u hu, fun b e he => ha.kept.le.fm b e he, fun n b hb => ha.kept.le.gb n b hb, fun n b hb => ha.kept.le.lp n b hb⟩, fun b hb ho => ?_, ha.kept.size, ha.kept.os, ha.kept.tape, ha.kept.output, ha.kept.frz⟩, fun n hn => ha.gens n hn⟩
 ·rcases MX g g1 s.low.length vis b with e | ⟨t, i, h1, h2, _⟩
  ·rw [e] at hb; exact ha.winv.ow _ _ hb
  ·exact Nat.lt_of_lt_of_le (h.winv.ow _ _ h1) ha.kept.size
 ·have hj : j < s.low.length := by rw [← hlen]; exact (List.getElem?_eq_some_iff.1 h2).1
  have h2' : low'[j]? = some fr' := by
   rw [List.getElem?_dropLast] at h2
   split at h2
   ·exact h2
   ·simp at h2
  have h1' : (tss ++ [ts])[j]? = some ts' := by rw [List.getElem?_append_left (by rw [h.stack.len]; exact hj)]; exact h1
  exact (ha.stack.fr j ts' fr' h1' h2').keep hle fun b p hb _ => hun b p hb
 ·simp only [KB] at hs
  simp only [hlen]
  by_cases hv : vis.contains t = true
  ·rw [if_pos hv] at hs
   split at hs
   ·have hts : (tss ++ [ts])[s.low.length]? = some ts := by rw [← h.stack.len]; simp
    exact ((ha.stack.fr s.low.length ts fr hts hlast).env t sl hs).keep hle fun b i hb => hun b _ hb
   ·simp at hs
  ·rw [if_neg hv] at hs
   have ht : t ∉ vis := by simpa using hv
   exact (h.env t sl hs).keep ⟨fun b i u hu => ha.kept.le.im b i u hu, fun b e he => ha.kept.le.fm b e he, fun n b hb => ha.kept.le.gb n b hb, fun n b hb => ha.kept.le.lp n b hb⟩ fun b i hb => (hrel b t i hb ht).1
 ·have hu := ha.kept.unch b hb (MY ho)
  refine ⟨hu.heap, hu.im, hu.fm, ?_⟩
  rcases MX g g1 s.low.length vis b with e | ⟨t, i, h1, _, _⟩
  ·rw [e, hu.ow, MY ho, ho]
  ·rw [ho] at h1; simp at h1
def Gh.bare (g : Gh) : Gh := { g with gb := fun _ => none, ow := fun _ => none }
theorem I2.bare {c : Nat} (h : I2 T g w c) : I2 T g.bare w 0 :=
 ⟨h.im, h.one, h.fm, fun b p hb => by simp [Gh.bare] at hb, fun n b hb => by simp [Gh.bare] at hb, h.lp, fun _ _ => rfl, h.globs⟩
theorem AV.barePopped (h : AV T g w tss s ts) {g1 : Gh} {w1 : World} {low' : List Fr} {c' : Nat} (ha : V2 T g.bare w 0 [] low' c' g1 w1) :
  AV T { g1 with gb := g.gb, ow := g.ow } w1 tss s ts ∧ N7 g w { g1 with gb := g.gb, ow := g.ow } w1 := by
 have hle : g.Le { g1 with gb := g.gb, ow := g.ow } := ⟨ha.kept.le.im, ha.kept.le.fm, fun _ _ h => h, ha.kept.le.lp⟩
 have hun : ∀ b, b < w.heap.size → NQ g w { g1 with gb := g.gb, ow := g.ow } w1 b := fun b hb => by
  have hu := ha.kept.unch b hb rfl
  exact ⟨hu.heap, hu.im, hu.fm, rfl⟩
 have hW : I2 T { g1 with gb := g.gb, ow := g.ow } w1 s.ctr :=
  ⟨ha.winv.im, ha.winv.one, ha.winv.fm, fun b p hb => Nat.lt_of_lt_of_le (h.winv.ow b p hb) ha.kept.size, fun n b hb => Nat.lt_of_lt_of_le (h.winv.gb n b hb) ha.kept.size, ha.winv.lp, h.winv.ctr, ha.winv.globs⟩
 exact ⟨h.move hW hle fun b p hb => hun b (h.winv.ow b p hb), hle, fun b hb _ => hun b hb, ha.kept.size, ha.kept.os, ha.kept.tape, ha.kept.output, ha.kept.frz⟩
theorem OP {s s' : St} {d : Option Nat} {x : LV} (h : s.put d x = some s') : s'.ctr = s.ctr := by
 unfold St.put at h
 split at h
 ·simp only [Option.some.injEq] at h; rw [h]
 ·split at h <;> first
   | (simp at h; done)
   | (simp only [Option.some.injEq] at h; rw [← h])
def Ws (T : Tables) (g : Gh) (w : World) (tss : List (Array Value)) (s s' : St) (ts : Array Value) (dst : Option Nat) (gi : Nat) (mk : Array Value → World → Machine) (m' : Machine) : Prop :=
 ∃ g' w' v, m' = mk (gB ts dst v) w' ∧ N7 g w g' w' ∧ AV T g' w' tss s' (gB ts dst v) ∧ (∀ n, n < s.ctr → n ≠ gi → g'.gb n = g.gb n) ∧ s.ctr ≤ s'.ctr
theorem RU (ts : Array Value) (df : List Deferred) (dst : Option Nat) (v : Value) : (⟨ts, df⟩ : Act).put dst v = ⟨gB ts dst v, df⟩ := by
 cases dst <;> rfl
theorem Y6 (h : AV T g w tss s ts) {xs : Array Operand} {ys : List Opd} (hx : Ic xs = some ys) : Dk g (xs.map (⟨ts, df⟩ : Act).eval) (ys.map (s.val T.LP)) :=
 ⟨(h.vals (df := df) hx).1, (h.vals (df := df) hx).2⟩
variable {b : Frame} {k : List Item} {cs : List Frame} {ops : Array Oper} {i : Nat} {rest : List Nat}
theorem YY (hC : Lr T C) (hR : KO T C) (h : AV T g w tss s ts) (hd : ∀ d, dst = some d → d < ts.size) {o : Oper} (hoi : ops[i]? = some o) (hdst : o.dst = dst)
  (hw : Region.wanted o (yielded ops ts) = true) {c : Call} {fo : Operand} {f : Opd} {args : List Opd} {vis : List Nat} (ho : o.op = .call c) (hc : c.callee = .value fo) (hf : As fo = some f)
  (hargs : Ic c.args = some args) (he : evalOp T.LP C gi dst (.call f args (some vis)) s = some s') :
  DL T.P (lone (b.atR ⟨ts, df⟩ (.inRegion ops (i :: rest) :: k)) cs w) (Ws T g w tss s s' ts dst gi fun ts' w' => lone (b.atR ⟨ts', df⟩ (.inRegion ops rest :: k)) cs w') := by
 subst hdst
 have hnd : ∀ c, o.op ≠ .defer c := by intro c' e; rw [ho] at e; simp at e
 have hF := h.val (df := df) hf
 have hA := Y6 (df := df) h hargs
 have hrel := Qn (g := g) s.low.length vis
 have hA' : Dk (g.release s.low.length vis) (c.args.map (⟨ts, df⟩ : Act).eval) (args.map (s.val T.LP)) := ⟨hA.size, fun i x hx => ⟨(hA.rep i x hx).1.mono hrel, (hA.rep i x hx).2⟩⟩
 have hW := h.winv.release s.low.length vis
 have hS := h.pushed vis
 have fin : ∀ (low' : List Fr) (c' : Nat) (g1 : Gh) (w1 : World) (v : Value) (x : LV) (fr : Fr), low'.length = s.low.length + 1 → low'.getLast? = some fr → V2 T (g.release s.low.length vis) w s.ctr (tss ++ [ts]) low' c' g1 w1 →
   Bm g1 v x → x.cold = true → ({ env := Env.merge vis s.env fr.env, low := low'.dropLast, ctr := c' } : St).put o.dst x = some s' →
   Ws T g w tss s s' ts o.dst gi (fun ts' w' => lone (b.atR ⟨ts', df⟩ (.inRegion ops rest :: k)) cs w') (lone (b.atR ⟨gB ts o.dst v, df⟩ (.inRegion ops rest :: k)) cs w1) := by
  intro low' c' g1 w1 v x fr hl hfr ha hr hcold hp
  obtain ⟨p1, p2, p3⟩ := h.popped hl hfr ha
  exact ⟨_, w1, v, rfl, p2, p1.put_cold hp hd (hr.mono (cf _ _ _ _)) hcold, fun n hn _ => p3 n hn, by rw [OP hp]; exact ha.mono⟩
 simp only [evalOp] at he
 split at he
 ·
  rename_i j gen hfv
  rw [hfv] at hF
  split at he
  ·rename_i bb low' c' hround
   split at he
   ·rename_i fr hfr
    split at he
    ·rename_i hl
     generalize hfval : (⟨ts, df⟩ : Act).eval fo = fval at hF
     cases hF with
     | @yield l _ _ hgb =>
      obtain ⟨fid, tmps, as, bd, hy, hgo⟩ := hR j gen _ _ _ _ _ _ hround _ w _ _ l hW hS hA' hgb
      have hrun : (execOp (⟨ts, df⟩ : Act).eval o).run T.P w = .ok (.round l fid tmps as bd) w := by
       simp only [execOp, ho, resolve, hc, hfval, Deferred.ofValue, Sem.run_bind, Sem.run_pure, Result.andThen_ok, invoke]
       simpa using hy
      refine DL.step (kz hoi hw hnd hrun) ((hgo _ cs).mono fun m' hm' => ?_)
      obtain ⟨w1, g1, rfl, ha⟩ := hm'
      rw [Ln hoi, RU]
      exact fin low' c' g1 w1 (.bool bb) (.d (.bool bb)) fr hl hfr ha (.d (.bool bb)) rfl he
    ·simp at he
   ·simp at he
  ·simp at he
 ·
  split at he
  ·rename_i f' a' b' ht
   obtain ⟨va, vb, hval, ra, rb⟩ := RI hF ht
   split at he
   ·rename_i x low' c' hcall
    split at he
    ·rename_i fr hfr
     split at he
     ·rename_i hl
      obtain ⟨⟨fn, hfn, hname, hbody⟩, hgo⟩ := hC _ _ _ _ _ _ _ hcall
      have ra' : Dk (g.release s.low.length vis) va a' := ⟨ra.size, fun i x hx => ⟨(ra.rep i x hx).1.mono hrel, (ra.rep i x hx).2⟩⟩
      have rb' : Dk (g.release s.low.length vis) vb b' := ⟨rb.size, fun i x hx => ⟨(rb.rep i x hx).1.mono hrel, (rb.rep i x hx).2⟩⟩
      have hrun := kO (w := w) ho hc hval hfn hname hbody
      refine DL.step (ZQ hoi hw hnd hrun) ((hgo _ w _ _ hW hS ((ra'.append hA').append rb') _).bind fun m' hm' => ?_)
      obtain ⟨fr', w1, v1, g1, rfl, hff, hleave, hr, hcold, ha⟩ := hm'
      refine DL.step (step_leave_returned hleave) (DL.here ?_)
      rw [Ln hoi, RU]
      exact fin low' c' g1 w1 v1 x fr hl hfr ha hr hcold he
     ·simp at he
    ·simp at he
   ·simp at he
  ·simp at he
theorem UZ {vs : Array Value} {xs : List LV} {ds : List DV} (h : Dk g vs xs) (hd : AW xs = some ds) : Dk g.bare vs (ds.map .d) := by
 refine ⟨by rw [h.size, List.length_map, (IW hd).1], fun i x hx => ?_⟩
 simp only [List.getElem?_map, Option.map_eq_some_iff] at hx
 obtain ⟨d, hd', rfl⟩ := hx
 obtain ⟨c, hc, hcd⟩ := Hw hd hd'
 exact ⟨.d ((h.rep i c hc).1.toD hcd), rfl⟩
theorem bn (hC : Lr T C) (h : AV T g w tss s ts) (hd : ∀ d, dst = some d → d < ts.size) {o : Oper} (hoi : ops[i]? = some o) (hdst : o.dst = dst)
  (hw : Region.wanted o (yielded ops ts) = true) {c : Call} {fo : Operand} {f : Opd} {args : List Opd} (ho : o.op = .call c) (hc : c.callee = .value fo) (hf : As fo = some f)
  (hargs : Ic c.args = some args) (he : evalOp T.LP C gi dst (.call f args none) s = some s') :
  DL T.P (lone (b.atR ⟨ts, df⟩ (.inRegion ops (i :: rest) :: k)) cs w) (Ws T g w tss s s' ts dst gi fun ts' w' => lone (b.atR ⟨ts', df⟩ (.inRegion ops rest :: k)) cs w') := by
 subst hdst
 have hnd : ∀ c, o.op ≠ .defer c := by intro c' e; rw [ho] at e; simp at e
 have hF := h.val (df := df) hf
 have hA := Y6 (df := df) h hargs
 simp only [evalOp] at he
 split at he
 ·rename_i f' a' b' ds ht hds
  obtain ⟨va, vb, hval, ra, rb⟩ := RI hF ht
  split at he
  ·rename_i ad bd had hbd
   split at he
   ·rename_i x low' c' hcall
    split at he
    ·rename_i d hxd
     obtain ⟨⟨fn, hfn, hname, hbody⟩, hgo⟩ := hC _ _ _ _ _ _ _ hcall
     have hrun := kO (w := w) ho hc hval hfn hname hbody
     have hargs' : Dk g.bare (va ++ c.args.map (⟨ts, df⟩ : Act).eval ++ vb) ((ad ++ ds ++ bd).map .d) := by
      rw [List.map_append, List.map_append]
      exact ((UZ ra had).append (UZ hA hds)).append (UZ rb hbd)
     refine DL.step (ZQ hoi hw hnd hrun) ((hgo _ w [] _ h.winv.bare ⟨rfl, fun j ts fr h1 _ => by simp at h1⟩ hargs' _).bind fun m' hm' => ?_)
     obtain ⟨fr', w1, v1, g1, rfl, hff, hleave, hr, hcold, ha⟩ := hm'
     refine DL.step (step_leave_returned hleave) (DL.here ?_)
     rw [Ln hoi, RU]
     obtain ⟨p1, p2⟩ := h.barePopped ha
     exact ⟨_, w1, v1, rfl, p2, p1.put_cold he hd (.d (hr.toD hxd)) rfl, fun n _ _ => rfl, by rw [OP he]; exact Nat.le_refl _⟩
    ·simp at he
   ·simp at he
  ·simp at he
 ·simp at he
end
end Go.Lf
