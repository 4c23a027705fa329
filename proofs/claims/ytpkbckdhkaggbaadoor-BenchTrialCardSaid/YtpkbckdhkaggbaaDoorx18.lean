/- A part of the proof. -/
import Derived.Test.YtpkbckdhkaggbaaDoorx17
set_option linter.all false
namespace Go.Lf
open Go
section
variable {T : Tables} {g : Gh} {w : World} {tss : List (Array Value)} {s s' : St} {ts : Array Value} {dst : Option Nat} {gi : Nat} {df : List Deferred} {C : AP}
theorem U8 {P : Program} {e : TypeId} {z : DV} (h : RI P e = some z) : ∃ v, (∀ w : World, (zeroValue e).run P w = .ok v w) ∧ ∀ im fm, Cf im fm v z := by
 unfold RI at h
 split at h
 ·rename_i i hi
  split at h
  ·rename_i v hv
   exact ⟨v, fun w => QI hi hv, fun im fm => Cf.cv h⟩
  ·simp at h
 ·simp at h
def O8 (ks : List Int) {α : Type} (es : List (List Int × α)) (es' : Array MapEntry) (z : Value) : Value × Bool := match AM ks es 0 with
 | some p => ((es'.getD p.1 default).val, true)
 | none => (z, false)
theorem Q8 {P : Program} {t key e : TypeId} {n : Nat} {α : Type} (hu : P.underlying t = some (.map key e)) (hkn : dU P key = some n) {mv kv zv : Value} {ks : List Int} (hkv : Vg n ks kv)
  (hz : ∀ w : World, (zeroValue e).run P w = .ok zv w) {es' : Array MapEntry} (hm : (mv = .map none ∧ es' = #[]) ∨ ∃ b c, mv = .map (some b) ∧ w.heap[b]? = some (.map es' c))
  {es : List (List Int × α)} (hn : es'.size = es.length) (hk : ∀ i p, es[i]? = some p → Vg n p.1 (es'.getD i default).key) (ok : Bool) :
  (Instr.lookup t mv kv ok).run P w = .ok (if ok then .tuple #[(O8 ks es es' zv).1, .bool (O8 ks es es' zv).2] else (O8 ks es es' zv).1) w := by
 have hfk := FB (w := w) hkn hkv es'.toList es (by simpa using hn) (P6 hk)
 have hck : ∀ em, (Instr.checkKey em 10000 key kv).run P w = .ok () w := fun em => Es hkn hkv
 rcases hm with ⟨rfl, rfl⟩ | ⟨b, c, rfl, hb⟩
 ·simp only [Instr.lookup, Sem.run_bind, AW hu, Result.andThen_ok, Sem.run_pure, hck, hfk]
  unfold O8
  cases hg : AM ks es 0 with
  | none => simp only [Option.map_none, Sem.run_bind, hz, Result.andThen_ok, Sem.run_pure]
  | some p =>
   have : es = [] := List.length_eq_zero_iff.1 (by simpa using hn.symm)
   subst this; simp [AM] at hg
 ·simp only [Instr.lookup, Sem.run_bind, AW hu, Result.andThen_ok, Sem.run_pure, JW hb, hck, hfk]
  unfold O8
  cases hg : AM ks es 0 with
  | none => simp only [Option.map_none, Sem.run_bind, hz, Result.andThen_ok, Sem.run_pure]
  | some p => simp only [Option.map_some, pure_bind, Sem.run_pure, Ri]
theorem jl {t key e : TypeId} {n : Nat} {mo ko : Operand} {m k : vD} {ok : Bool} {z : DV} {o : Oper} (h : AS T g w tss s ts) (hd : ∀ d, dst = some d → d < ts.size)
  (hu : T.P.underlying t = some (.map key e)) (hkn : dU T.P key = some n) (hm : Aq mo = some m) (hk : Aq ko = some k) (hz : RI T.P e = some z)
  (ho : o.op = .lookup t mo ko ok) (he : evalOp T.LP C gi dst (.lookup n m k ok z) s = some s') :
  BS T g w tss s s' ts dst gi ((execOp (⟨ts, df⟩ : Act).eval o).run T.P w) := by
 simp only [evalOp] at he
 have hM := h.val (df := df) hm
 have hK := h.val (df := df) hk
 obtain ⟨zv, hzr, hzd⟩ := U8 hz
 split at he
 ·simp at he
 ·rename_i ks hks
  have hkv := hK.key hks
  have vN : ∀ (r : Option LV) (a : Value × Bool), a.2 = r.isSome → Bj g a.1 (r.getD (.d z)) → (r.getD (.d z)).cold = true →
    (execOp (⟨ts, df⟩ : Act).eval o).run T.P w = .ok (.value (if ok then .tuple #[a.1, .bool a.2] else a.1)) w →
    (if ok = true then s.put dst (LV.norm (.tup [r.getD (.d z), .d (.bool r.isSome)])) else s.put dst (r.getD (.d z))) = some s' →
    BS T g w tss s s' ts dst gi ((execOp (⟨ts, df⟩ : Act).eval o).run T.P w) := by
   intro r a ha hr hc hrun hp
   cases hok : ok
   ·rw [hok] at hp hrun
    exact A6 h hd hrun hp hr hc
   ·rw [hok] at hp hrun
    refine A6 h hd hrun hp (Bj.norm (.tup _ _ rfl fun i c hc' => ?_)) (C2 (by show (List.all [_, _] fun c => !LV.isHot c) = true; rw [List.all_cons, Dm hc]; rfl))
    match i, hc' with
    | 0, hc' => simp only [List.getElem?_cons_zero, Option.some.injEq] at hc'; subst hc'; exact hr
    | 1, hc' =>
     simp only [List.getElem?_cons_succ, List.getElem?_cons_zero, Option.some.injEq] at hc'; subst hc'
     rw [← ha]; exact .d (.bool _)
    | i + 2, hc' => simp at hc'
  have hex : ∀ {v : Value}, (Instr.lookup t ((⟨ts, df⟩ : Act).eval mo) ((⟨ts, df⟩ : Act).eval ko) ok).run T.P w = .ok v w → (execOp (⟨ts, df⟩ : Act).eval o).run T.P w = .ok (.value v) w := by
   intro v hv
   simp only [execOp, ho, Sem.run_bind, hv, Result.andThen_ok, Sem.run_pure]
  split at he
  ·rename_i j tm g' hmv
   rw [hmv] at hM
   obtain ⟨b, hvm, hgb⟩ := hM.mref'
   split at he
   ·rename_i es hes
    obtain ⟨hat, b', es', hval, hgb', how, hheap, hf, hn, hborn, hkk, hrr⟩ := h.entries hes
    rw [hgb] at hgb'
    simp only [Option.some.injEq] at hgb'
    subst hgb'
    have hrun := hex (Q8 (w := w) hu hkn hkv hzr (.inr ⟨b, _, hvm, hheap⟩) hn hkk ok)
    refine vN _ _ ?_ ?_ ?_ hrun he
    ·unfold O8; cases AM ks es 0 <;> rfl
    ·unfold O8
     cases hg : AM ks es 0 with
     | none => exact .d (hzd _ _)
     | some p =>
      obtain ⟨_, hp⟩ := Ew hg
      exact ((hrr p.1 _ (by simpa using hp)).1).copy
    ·cases AM ks es 0 with
     | none => rfl
     | some p => exact HH _
   ·simp at he
  ·rename_i n' es hmv
   rw [hmv] at hM
   split at he
   ·rename_i hn'
    subst hn'
    have hM' := hM.dinv
    generalize hvm : (⟨ts, df⟩ : Act).eval mo = vm at hM'
    cases hM' with
    | fmap b _ es' _ hf hn hkk hrr =>
     obtain ⟨c, hheap⟩ := h.winv.fm _ _ hf
     have hrun := hex (Q8 (w := w) hu hkn hkv hzr (.inr ⟨b, c, hvm, hheap⟩) hn hkk ok)
     refine vN _ _ ?_ ?_ ?_ hrun he
     ·unfold O8; cases AM ks es 0 <;> rfl
     ·unfold O8
      cases hg : AM ks es 0 with
      | none => exact .d (hzd _ _)
      | some p =>
       obtain ⟨_, hp⟩ := Ew hg
       exact .d (hrr p.1 _ (by simpa using hp))
     ·cases AM ks es 0 with
      | none => rfl
      | some p => rfl
   ·simp at he
  ·rename_i hmv
   rw [hmv] at hM
   have hM' := hM.dinv
   generalize hvm : (⟨ts, df⟩ : Act).eval mo = vm at hM'
   cases hM'
   have hrun := hex (Q8 (w := w) (α := DV) (es := []) (es' := #[]) hu hkn hkv hzr (.inl ⟨hvm, rfl⟩) rfl (fun i p hp => by simp at hp) ok)
   exact vN none _ rfl (.d (hzd _ _)) rfl hrun he
  ·simp at he
theorem AS.coolMap (h : AS T g w tss s ts) {j t gn n i : Nat} {es : List (List Int × LV)} (hc : s.entries j t gn n = some es) {key : List Int} {x : LV} (hcell : es[i]? = some (key, x)) (p : DX) :
  ∃ b es' g', g.gb gn = some b ∧ w.heap[b]? = some (.map es' es'.size) ∧ es'.size = es.length ∧ (∀ i, i < es'.size → (es'.getD i default).born = i) ∧
   (∀ i p, es[i]? = some p → Vg n p.1 (es'.getD i default).key) ∧ N5 g w g' w ∧ g'.gb = g.gb ∧
   AS T g' w tss (s.setAt j t (.mapo gn n (es.set i (key, x.cool)))) ts ∧ Bj g' (es'.getD i default).val x ∧ uM g' w p (es'.getD i default).val x := by
 obtain ⟨hat, b, es', hval, hgb, how, hheap, hf, hn, hborn, hkk, hrr⟩ := h.entries hc
 obtain ⟨hr, hown⟩ := hrr i _ hcell
 have vN : ∀ g' : Gh, g.Le g' → g'.gb = g.gb → g'.ow b = some (.slot j t 0) → g'.fm b = none → IU T g' w s.ctr → (∀ c q, g.ow c = some q → q ≠ .slot j t (i + 1) → NG g w g' w c) →
   AS T g' w tss (s.setAt j t (.mapo gn n (es.set i (key, x.cool)))) ts := by
  intro g' hle hgbe hgo hgf hW hk
  refine h.setAt hat hW hle (fun c q hcq hq => hk c q hcq (hq _)) ?_
  rw [hval]
  refine .mapo (by rw [hgbe]; exact hgb) hgo hheap hgf (by simpa using hn) hborn (fun q p hq => ?_) fun q p hq => ?_
  ·rw [J5] at hq
   split at hq
   ·rename_i hc'; obtain ⟨rfl, _⟩ := hc'
    simp only [Option.some.injEq] at hq; subst hq; have := hkk i _ hcell; exact this
   ·split at hq
    ·simp at hq
    ·exact hkk q p hq
  ·rw [J5] at hq
   split at hq
   ·rename_i hc'; obtain ⟨rfl, _⟩ := hc'
    simp only [Option.some.injEq] at hq; subst hq
    exact ⟨(hr.mono hle).cool, uM.of_cold (Ua _)⟩
   ·split at hq
    ·simp at hq
    ·rename_i hne
     refine ⟨(hrr q p hq).1.mono hle, (hrr q p hq).2.keep fun b' hb' => hk b' _ hb' fun e => ?_⟩
     simp only [DX.slot.injEq] at e
     omega
 by_cases hhot : x.isHot = true
 ·cases x <;> simp only [LV.isHot, Bool.false_eq_true] at hhot
  rename_i z xs
  obtain ⟨b2, o2, cap, hv, hb2, hi2, cells, e2, hh2, hcap⟩ := hown
  have hne : b ≠ b2 := fun e => by subst e; rw [how] at hb2; simp at hb2
  have hl := g.own_le b2 p
  refine ⟨b, es', g.own b2 p, hgb, hheap, hn, hborn, hkk, Oy hb2, rfl, vN _ hl rfl (by simp [Gh.own, hne, how]) hf (h.winv.own (h.winv.ow _ _ hb2)) (fun c q hcq hq => Hv g w b2 p c fun e => ?_), hr.mono hl,
   ⟨b2, o2, cap, hv, by simp [Gh.own], hi2, cells, e2, hh2, hcap⟩⟩
  subst e; rw [hb2] at hcq; simp only [Option.some.injEq] at hcq; exact hq hcq.symm
 ·exact ⟨b, es', g, hgb, hheap, hn, hborn, hkk, .refl g w, rfl, vN g (.refl g) rfl how hf h.winv fun c q _ _ => .refl g w c, hr, uM.of_cold (by simpa using hhot)⟩
theorem fK {j d : Nat} {u v : Value} {x y : LV} (hx : uM g w (.slot j d 1) u x) (hy : y.isHot = false) : Fb g w j d (.tuple #[u, v]) (.tup [x, y]) := by
 refine ⟨_, rfl, fun i c hc => ?_⟩
 match i, hc with
 | 0, hc => simp only [List.getElem?_cons_zero, Option.some.injEq] at hc; subst hc; exact hx
 | 1, hc =>
  simp only [List.getElem?_cons_succ, List.getElem?_cons_zero, Option.some.injEq] at hc; subst hc
  exact uM.of_cold hy
 | i + 2, hc => simp at hc
theorem gy {u v : Value} {x y : LV} (hx : Bj g u x) (hy : Bj g v y) : Bj g (.tuple #[u, v]) (.tup [x, y]) := by
 refine .tup _ _ rfl fun i c hc => ?_
 match i, hc with
 | 0, hc => simp only [List.getElem?_cons_zero, Option.some.injEq] at hc; subst hc; exact hx
 | 1, hc => simp only [List.getElem?_cons_succ, List.getElem?_cons_zero, Option.some.injEq] at hc; subst hc; exact hy
 | i + 2, hc => simp at hc
theorem de {α : Type} [Inhabited α] (a : Array α) (i : Nat) (f : α → α) (h : f (a.getD i default) = a.getD i default) : a.modify i f = a := by
 apply Array.ext
 ·simp
 ·intro k h1 h2
  rw [Array.getElem_modify]
  split
  ·rename_i e; subst e
   simp only [Array.getD, h2, dif_pos, Array.getInternal_eq_getElem] at h
   exact h
  ·rfl
theorem jJ {t key e : TypeId} {n : Nat} {mo ko : Operand} {m k : vD} {z : DV} {o : Oper} (h : AS T g w tss s ts) (hd : ∀ d, dst = some d → d < ts.size)
  (hu : T.P.underlying t = some (.map key e)) (hkn : dU T.P key = some n) (hm : Aq mo = some m) (hk : Aq ko = some k) (hz : RI T.P e = some z)
  (ho : o.op = .mapEntry t mo ko) (he : evalOp T.LP C gi dst (.mentry n m k z) s = some s') :
  BS T g w tss s s' ts dst gi ((execOp (⟨ts, df⟩ : Act).eval o).run T.P w) := by
 simp only [evalOp] at he
 have hM := h.val (df := df) hm
 have hK := h.val (df := df) hk
 obtain ⟨zv, hzr, hzd⟩ := U8 hz
 split at he
 ·rename_i j tm g' ks hmv hks
  rw [hmv] at hM
  obtain ⟨b, hvm, hgb⟩ := hM.mref'
  have hkv := hK.key hks
  split at he
  ·rename_i es hes
   split at he
   ·rename_i i v hg
    obtain ⟨_, hp⟩ := Ew hg
    simp only [Nat.sub_zero] at hp
    obtain ⟨b', es', g1, hgb', hheap, hn, hborn, hkk, hkept, hgbe, hinv, hrep, hown⟩ := h.coolMap hes hp (.slot s.low.length (dst.getD 0) 1)
    rw [hgb] at hgb'
    simp only [Option.some.injEq] at hgb'
    subst hgb'
    have hil : i < es'.size := by rw [hn]; exact (List.getElem?_eq_some_iff.1 hp).1
    have hfk := FB (w := w) hkn hkv es'.toList es (by simpa using hn) (P6 hkk)
    rw [hg] at hfk
    simp only [Option.map_some, Ri] at hfk
    have hold := hkk i _ hp
    have hgd : ((es'[i]?).map (·.key)).getD ((⟨ts, df⟩ : Act).eval ko) = (es'.getD i default).key := by simp [hil, Array.getD]
    have hbd : ((es'[i]?).map (fun x => (x.born : Int))).getD 0 = (i : Int) := by
     have := hborn i hil
     simp [Array.getD, hil] at this
     simp [hil, this]
    have hsame : es'.modify i (fun e => { e with key := (⟨ts, df⟩ : Act).eval ko }) = es' := de _ _ _ (by
     have : (⟨ts, df⟩ : Act).eval ko = (es'.getD i default).key := by rw [hold.2, hkv.2]
     rw [this])
    have hrun : (execOp (⟨ts, df⟩ : Act).eval o).run T.P w = .ok (.value (.tuple #[(es'.getD i default).val, .int .i64 i])) w := by
     simp only [execOp, ho, Instr.mapEntry, hvm, Sem.run_bind, AW hu, Result.andThen_ok, JW hheap, Es hkn hkv, hfk, hgd, Instr.keyThatStays, RX hold hkv, if_true,
      Sem.run_pure, Jf hheap, hsame, ZS hheap, hbd]
     rfl
    refine ⟨g1, w, _, .inl hrun, hkept, hinv.put he hd (gy hrep (.d (.int _))) fun d hdd => ?_, fun n _ _ => by rw [hgbe]⟩
    subst hdd
    rw [XS]
    exact fK hown rfl
   ·rename_i hg
    obtain ⟨hat, b', es', hval, hgb', how, hheap, hf, hn, hborn, hkk, hrr⟩ := h.entries hes
    rw [hgb] at hgb'
    simp only [Option.some.injEq] at hgb'
    subst hgb'
    have hfk := FB (w := w) hkn hkv es'.toList es (by simpa using hn) (P6 hkk)
    rw [hg] at hfk
    simp only [Option.map_none] at hfk
    have hrun : (execOp (⟨ts, df⟩ : Act).eval o).run T.P w = .ok (.value (.tuple #[zv, .int .i64 es.length])) (AD w b (.map (es'.push { key := (⟨ts, df⟩ : Act).eval ko, val := zv, born := es'.size }) (es'.size + 1))) := by
     simp only [execOp, ho, Instr.mapEntry, hvm, Sem.run_bind, AW hu, Result.andThen_ok, JW hheap, Es hkn hkv, hfk, hzr, Sem.run_pure, Jf hheap]
     rw [← hn]
     rfl
    have hnew : ∀ (q : Nat) (p : List Int × LV), (es ++ [(ks, (.d z : LV))])[q]? = some p → (q = es.length ∧ p = (ks, .d z)) ∨ (q < es.length ∧ es[q]? = some p) := fun q p hq => by
     by_cases hql : q < es.length
     ·rw [List.getElem?_append_left hql] at hq; exact .inr ⟨hql, hq⟩
     ·have := (List.getElem?_eq_some_iff.1 hq).1
      simp only [List.length_append, List.length_singleton] at this
      obtain rfl : q = es.length := by omega
      simp at hq
      exact .inl ⟨rfl, hq.symm⟩
    have := h.setMap hes (es1' := es'.push { key := (⟨ts, df⟩ : Act).eval ko, val := zv, born := es'.size }) (es1 := es ++ [(ks, .d z)]) (by simp [hn])
     (fun q hq => by
      rw [Ja]
      by_cases hc : q = es'.size
      ·rw [if_pos hc]; exact hc.symm
      ·rw [if_neg hc]; exact hborn q (by simp only [Array.size_push] at hq; omega)) (fun q p hq => by
      rw [Ja]
      rcases hnew q p hq with ⟨rfl, rfl⟩ | ⟨hl, hq⟩
      ·rw [if_pos hn.symm]; exact hkv
      ·rw [if_neg (by omega)]; exact hkk q p hq) (fun q p hq => by
      rw [Ja]
      rcases hnew q p hq with ⟨rfl, rfl⟩ | ⟨hl, hq⟩
      ·rw [if_pos hn.symm]; exact ⟨.d (hzd _ _), trivial⟩
      ·rw [if_neg (by omega)]; exact hrr q p hq) (b := b) hgb
    rw [Array.size_push] at this
    refine ⟨g, _, _, .inl hrun, this.1, this.2.put he hd (gy (.d (hzd _ _)) (.d (.int _))) fun d hdd => fK trivial rfl, fun n _ _ => rfl⟩
  ·simp at he
 ·simp at he
theorem dC (es' : Array MapEntry) (hb : ∀ i, i < es'.size → (es'.getD i default).born = i) {i : Nat} (hi : i < es'.size) : es'.findIdx? (fun e => (e.born : Int) == (i : Int)) = some i := by
 rw [Array.findIdx?_eq_some_iff_getElem]
 have h0 : ∀ k (hk : k < es'.size), es'[k].born = k := fun k hk => by simpa [Array.getD, hk] using hb k hk
 refine ⟨hi, by simp [h0 i hi], fun k hk => ?_⟩
 have := h0 k (by omega)
 simp [this]; omega
theorem jK {t : TypeId} {n : Nat} {mo io vo : Operand} {m i v : vD} {o : Oper} (h : AS T g w tss s ts) (hd : dst = none)
  (hm : Aq mo = some m) (hi : Aq io = some i) (hv : Aq vo = some v)
  (ho : o.op = .entryStore t mo io vo) (he : evalOp T.LP C gi dst (.mstore n m i v) s = some s') :
  BS T g w tss s s' ts dst gi ((execOp (⟨ts, df⟩ : Act).eval o).run T.P w) := by
 subst hd
 simp only [evalOp] at he
 have hM := h.val (df := df) hm
 have hI := h.val (df := df) hi
 split at he
 ·rename_i j tm g' a hmv ha
  rw [hmv] at hM
  obtain ⟨b, hvm, hgb⟩ := hM.mref'
  have hiv := hI.nat ha
  split at he
  ·rename_i es hes
   obtain ⟨g1, h1, h2, h3, h4, h5, h6, h7, h8, h9, h10⟩ := h.takeTo (df := df) hv (.slot j tm (a + 1))
   obtain ⟨hat, b', es', hval, hgb', how, hheap, hf, hn, hborn, hkk, hrr⟩ := h2.entries hes
   rw [h6, hgb] at hgb'
   simp only [Option.some.injEq] at hgb'
   subst hgb'
   split at he
   ·rename_i ks vold hp
    simp only [Option.some.injEq] at he
    subst he
    have hil : a < es'.size := by rw [hn]; exact (List.getElem?_eq_some_iff.1 hp).1
    have hrun : (execOp (⟨ts, df⟩ : Act).eval o).run T.P w = .ok .skip (AD w b (.map (es'.modify a fun e => { e with val := (⟨ts, df⟩ : Act).eval vo }) es'.size)) := by
     simp only [execOp, ho, Instr.entryStore, hvm, Sem.run_bind, JW hheap, Result.andThen_ok, hiv, asInt, asIntOf, Sem.run_pure, dC es' hborn hil, Jf hheap]
    have := h2.setMap hes (es1' := es'.modify a fun e => { e with val := (⟨ts, df⟩ : Act).eval vo }) (es1 := es.set a (ks, (s.take T.LP v).1)) (by simpa using hn)
     (fun q hq => by
      rw [Gu]
      simp only [Array.size_modify] at hq
      have := hborn q hq
      by_cases hc : a = q ∧ q < es'.size
      ·rw [if_pos hc]; exact this
      ·rw [if_neg hc]; exact this) (fun q p hq => by
      rw [Gu]
      rw [J5] at hq
      split at hq
      ·rename_i hc; obtain ⟨rfl, hc⟩ := hc
       simp only [Option.some.injEq] at hq; subst hq
       rw [if_pos ⟨rfl, by omega⟩]; have := hkk a _ hp; exact this
      ·split at hq
       ·simp at hq
       ·rename_i hne
        rw [if_neg (fun hc => hne hc.1)]; exact hkk q p hq) (fun q p hq => by
      rw [Gu]
      rw [J5] at hq
      split at hq
      ·rename_i hc; obtain ⟨rfl, hc⟩ := hc
       simp only [Option.some.injEq] at hq; subst hq
       rw [if_pos ⟨rfl, by omega⟩]; exact ⟨h1, h9⟩
      ·split at hq
       ·simp at hq
       ·rename_i hne
        rw [if_neg (fun hc => hne hc.1)]; exact hrr q p hq) (b := b) (by rw [h6]; exact hgb)
    rw [Array.size_modify] at this
    exact ⟨g1, _, Go.undef, .inr ⟨hrun, rfl⟩, h5.trans this.1, this.2, fun n _ _ => by rw [h6]⟩
   ·simp at he
  ·simp at he
 ·simp at he
end
end Go.Lf
namespace Go.Lf
open Go
section
variable {T : Tables} {g : Gh} {w : World} {tss : List (Array Value)} {s s' : St} {ts : Array Value} {dst : Option Nat} {gi : Nat} {df : List Deferred} {C : AP}
def u5.isCall : u5 → Bool
 | .call _ _ _ => true
 | _ => false
theorem pK {c : Call} {xs : Array Operand} {us : Array TypeId} {k : Callee} (h1 : c.callee = k) (h2 : c.args = xs) (h3 : c.argTypes = us) : c = { callee := k, args := xs, argTypes := us } := by
 cases c; simp only at h1 h2 h3; subst h1; subst h2; subst h3; rfl
theorem tR {α : Type} {a : Array α} {x : α} (h : a[0]? = some x) (hs : a.size = 1) : a = #[x] := by
 apply Array.ext
 ·simpa using hs
 ·intro i h1 h2
  have : i = 0 := by simp at h2; exact h2
  subst this
  rw [Array.getElem?_eq_getElem h1] at h
  simpa using h
theorem tK {α : Type} {a : Array α} {x y : α} (h : a[0]? = some x) (h' : a[1]? = some y) (hs : a.size = 2) : a = #[x, y] := by
 apply Array.ext
 ·simpa using hs
 ·intro i h1 h2
  simp only [List.size_toArray, List.length_cons, List.length_nil] at h2
  match i, h1 with
  | 0, h1 => rw [Array.getElem?_eq_getElem h1] at h; simpa using h
  | 1, h1 => rw [Array.getElem?_eq_getElem h1] at h'; simpa using h'
  | i + 2, _ => omega
theorem rA {a : uu} {o : Oper} {lop : u5} (h : AS T g w tss s ts) (hd : ∀ d, dst = some d → d < ts.size) (hgi : gi < s.ctr) (hg : g.gb gi = none)
  (htr : gC T.P a o.op = some lop) (hmute : lop.mute = true → dst = none) (hcall : lop.isCall = false) (he : evalOp T.LP C gi dst lop s = some s') :
  BS T g w tss s s' ts dst gi ((execOp (⟨ts, df⟩ : Act).eval o).run T.P w) := by
 cases hop : o.op <;> rw [hop] at htr <;> simp only [gC, bind, Option.bind_eq_some_iff, Option.some.injEq, reduceCtorEq] at htr
 case move x =>
  obtain ⟨y, hy, rfl⟩ := htr
  cases ht : a.take <;> rw [ht] at he
  ·exact (iG h hd hy (.inl hop) he)
  ·exact (Ou h hd hy (.inl hop) he)
 case assign x =>
  obtain ⟨y, hy, rfl⟩ := htr
  cases ht : a.take <;> rw [ht] at he
  ·exact (iG h hd hy (.inr hop) he)
  ·exact (Ou h hd hy (.inr hop) he)
 case pick c x y =>
  obtain ⟨c', hc, x', hx, y', hy, rfl⟩ := htr
  exact (mi h hd hc hx hy hop he)
 case alloc t =>
  obtain ⟨zs, hz, rfl⟩ := htr
  exact (km h hd hgi hg hz hop he)
 case box t x =>
  obtain ⟨k, hk, x', hx, rfl⟩ := htr
  exact (qL h hd hgi hg hx hop he)
 case build t ps =>
  obtain ⟨zs, hz, htr⟩ := htr
  split at htr
  ·rename_i fs hu
   split at htr
   ·rename_i hall
    simp only [Option.bind_eq_some_iff, Option.some.injEq] at htr
    obtain ⟨qs, hq, rfl⟩ := htr
    exact (cj h hd hz hu (.inl ⟨fs, rfl, rfl, hall⟩) hq hop he)
   ·simp at htr
  ·rename_i n e hu
   simp only [Option.bind_eq_some_iff, Option.some.injEq] at htr
   obtain ⟨k, hk, qs, hq, rfl⟩ := htr
   exact (cj h hd hz hu (.inr ⟨n, e, k, rfl, hk, rfl⟩) hq hop he)
  ·simp at htr
 case buildSlice t len ps =>
  split at htr
  ·rename_i e hu
   simp only [Option.bind_eq_some_iff] at htr
   obtain ⟨zs, hz, k, hk, htr⟩ := htr
   split at htr
   ·simp at htr
   ·rename_i hc
    simp only [Option.bind_eq_some_iff, Option.some.injEq] at htr
    obtain ⟨qs, hqs, rfl⟩ := htr
    exact (qF h hd hu hz hk (fun e => hc (.inl e)) (fun e => hc (.inr e)) hqs hop he)
  ·simp at htr
 case load t p =>
  obtain ⟨k, hk, p', hp, rfl⟩ := htr
  cases ht : a.take <;> rw [ht] at he
  ·exact (gw h hd hk hp hop he)
  ·exact (YM h hd hk hp hop he)
 case store t p x =>
  obtain ⟨k, hk, p', hp, x', hx, rfl⟩ := htr
  exact (j5 h (hmute rfl) hk hp hx hop he)
 case fieldAddr t x f =>
  split at htr
  ·rename_i fs hu
   split at htr
   ·rename_i off n hp
    split at htr
    ·simp at htr
    ·rename_i hn
     simp only [Option.bind_eq_some_iff, Option.some.injEq] at htr
     obtain ⟨x', hx, rfl⟩ := htr
     exact (kM h hd hu hp hn hx hop he)
   ·simp at htr
  ·simp at htr
 case field t x f =>
  split at htr
  ·rename_i fs hu
   split at htr
   ·rename_i fld hf
    simp only [Option.bind_eq_some_iff, Option.some.injEq] at htr
    obtain ⟨k, hk, x', hx, rfl⟩ := htr
    exact (mA h hd hu hf hk hx hop he)
   ·simp at htr
  ·simp at htr
 case indexAddr t x i =>
  split at htr
  ·rename_i e hu
   simp only [Option.bind_eq_some_iff, Option.some.injEq] at htr
   obtain ⟨k, hk, x', hx, i', hi, rfl⟩ := htr
   exact (ip h hd hu hk hx hi hop he)
  ·rename_i n e hu
   simp only [Option.bind_eq_some_iff, Option.some.injEq] at htr
   obtain ⟨k, hk, x', hx, i', hi, rfl⟩ := htr
   exact (jX h hd hu hk hx hi hop he)
  ·simp at htr
 case index t x i =>
  split at htr
  ·rename_i n e hu
   simp only [Option.bind_eq_some_iff, Option.some.injEq] at htr
   obtain ⟨k, hk, x', hx, i', hi, rfl⟩ := htr
   exact (lP h hd hu hk hx hi hop he)
  ·simp at htr
 case binOp op t x y u =>
  split at htr
  ·simp only [Option.bind_eq_some_iff, Option.some.injEq] at htr
   obtain ⟨x', hx, y', hy, rfl⟩ := htr
   exact (qN h hd hx hy hop he)
  ·rename_i hu
   split at htr
   ·simp only [Option.bind_eq_some_iff, Option.some.injEq] at htr
    obtain ⟨x', hx, y', hy, rfl⟩ := htr
    exact (lu h hd hx hy hu (by simpa using hop) he)
   ·simp only [Option.bind_eq_some_iff, Option.some.injEq] at htr
    obtain ⟨x', hx, y', hy, rfl⟩ := htr
    exact (lu h hd hx hy hu (by simpa using hop) he)
   ·simp at htr
  ·rename_i fs hu
   split at htr
   ·rename_i n hf
    split at htr
    ·simp only [Option.bind_eq_some_iff, Option.some.injEq] at htr
     obtain ⟨x', hx, y', hy, rfl⟩ := htr
     exact (Ze h hd hx hy hf hu rfl (by simpa using hop) he)
    ·simp only [Option.bind_eq_some_iff, Option.some.injEq] at htr
     obtain ⟨x', hx, y', hy, rfl⟩ := htr
     exact (Ze h hd hx hy hf hu rfl (by simpa using hop) he)
    ·simp at htr
   ·simp at htr
  ·rename_i fs hu
   split at htr
   ·rename_i n hf
    split at htr
    ·simp only [Option.bind_eq_some_iff, Option.some.injEq] at htr
     obtain ⟨x', hx, y', hy, rfl⟩ := htr
     exact (Ze h hd hx hy hf hu rfl (by simpa using hop) he)
    ·simp only [Option.bind_eq_some_iff, Option.some.injEq] at htr
     obtain ⟨x', hx, y', hy, rfl⟩ := htr
     exact (Ze h hd hx hy hf hu rfl (by simpa using hop) he)
    ·simp at htr
   ·simp at htr
  ·simp at htr
 case unOp op t x =>
  obtain ⟨x', hx, rfl⟩ := htr
  exact (rj h hd hx hop he)
 case makeFunc f first cap =>
  cases f <;> simp only [Option.bind_eq_some_iff, Option.some.injEq, reduceCtorEq] at htr
  obtain ⟨a', ha, b', hb, rfl⟩ := htr
  exact (np h hd ha hb hop he)
 case makeMap t r =>
  cases r <;> simp only [reduceCtorEq] at htr
  split at htr
  ·rename_i key e hu
   simp only [Option.bind_eq_some_iff, Option.some.injEq] at htr
   obtain ⟨n, hn, rfl⟩ := htr
   exact (lL h hd hgi hg hop he)
  ·simp at htr
 case insert t m k v =>
  split at htr
  ·rename_i key e hu
   simp only [Option.bind_eq_some_iff, Option.some.injEq] at htr
   obtain ⟨n, hn, m', hm, k', hk, v', hv, rfl⟩ := htr
   exact (Xn h (hmute rfl) hu hn hm hk hv (.inl hop) he)
  ·simp at htr
 case mapUpdate t m k v =>
  split at htr
  ·rename_i key e hu
   simp only [Option.bind_eq_some_iff, Option.some.injEq] at htr
   obtain ⟨n, hn, m', hm, k', hk, v', hv, rfl⟩ := htr
   exact (Xn h (hmute rfl) hu hn hm hk hv (.inr hop) he)
  ·simp at htr
 case lookup t m k ok =>
  split at htr
  ·rename_i key e hu
   simp only [Option.bind_eq_some_iff, Option.some.injEq] at htr
   obtain ⟨n, hn, m', hm, k', hk, z, hz, rfl⟩ := htr
   exact (jl h hd hu hn hm hk hz hop he)
  ·simp at htr
 case mapEntry t m k =>
  split at htr
  ·rename_i key e hu
   simp only [Option.bind_eq_some_iff, Option.some.injEq] at htr
   obtain ⟨n, hn, m', hm, k', hk, z, hz, rfl⟩ := htr
   exact (jJ h hd hu hn hm hk hz hop he)
  ·simp at htr
 case entryStore t m i x =>
  split at htr
  ·rename_i key e hu
   simp only [Option.bind_eq_some_iff, Option.some.injEq] at htr
   obtain ⟨n, hn, m', hm, i', hi, x', hx, rfl⟩ := htr
   exact (jK h (hmute rfl) hm hi hx hop he)
  ·simp at htr
 case slice t x lo hi mx =>
  split at htr
  ·rename_i e hu
   simp only [Option.bind_eq_some_iff, Option.some.injEq] at htr
   obtain ⟨k, hk, x', hx, lo', hlo, hi', hhi, mx', hmx, rfl⟩ := htr
   exact (kx h hd hu hk hx hlo hhi hmx hop he)
  ·simp at htr
 case extract x i =>
  obtain ⟨x', hx, rfl⟩ := htr
  exact (eB h hd hx hop he)
 case call c =>
  split at htr
  ·simp only [Option.bind_eq_some_iff, Option.some.injEq] at htr
   obtain ⟨_, _, _, _, rfl⟩ := htr
   simp [u5.isCall] at hcall
  ·rename_i hc
   split at htr
   ·rename_i t x ht hx hsz
    split at htr
    ·rename_i e hu
     simp only [Option.bind_eq_some_iff, Option.some.injEq] at htr
     obtain ⟨x', hx', rfl⟩ := htr
     exact (qG h hd hu hx' hop hc (tR hx hsz) ht he)
    ·rename_i n e hu
     simp only [Option.some.injEq] at htr
     subst htr
     refine (A6 h hd (v := .int .i64 n) ?_ he (.d (.int _)) rfl)
     simp [execOp, hop, resolve, hc, tR hx hsz, invoke, builtin, Builtin.len_, ht, AW hu, goInt]
    ·simp at htr
   ·simp at htr
  ·rename_i hc
   split at htr
   ·rename_i t u x y ht hu' hx hy hs hs'
    split at htr
    ·rename_i e e' hu1 hu2
     simp only [Option.bind_eq_some_iff] at htr
     obtain ⟨k, hk, q, hq, zs, hz, htr⟩ := htr
     split at htr
     ·simp at htr
     ·rename_i hcc
      simp only [Option.bind_eq_some_iff, Option.some.injEq] at htr
      obtain ⟨x', hx', y', hy', rfl⟩ := htr
      have hc' := pK hc (tK hx hy hs) (tK ht hu' hs')
      rw [hc'] at hop
      exact js h hd hop hu1 hu2 hk hz hq (fun e => hcc (.inl e)) (fun e => hcc (.inr e)) hx' hy' he
    ·simp at htr
   ·simp at htr
  ·rename_i hc
   simp only [Option.bind_eq_some_iff, Option.some.injEq] at htr
   obtain ⟨xs, hx, rfl⟩ := htr
   exact (X0 h hd hx hop (by simpa using hc) he)
  ·rename_i hc
   simp only [Option.bind_eq_some_iff, Option.some.injEq] at htr
   obtain ⟨xs, hx, rfl⟩ := htr
   exact (X0 h hd hx hop (by simpa using hc) he)
  ·simp at htr
end
end Go.Lf
