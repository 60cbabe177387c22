/- Texts of the proof, part 16: a second reading of the lowered code, proved sound, and what the functions compute. -/
import Derived.Test.YthapekoffnjeeaaG15
set_option linter.unusedSimpArgs false
set_option linter.unusedVariables false
namespace Go.Ae
open Go.Conc
def WM (C : Ctx) (nt : Nat) (ac : ACode) (Q : Out → Gh → St → Prop) (g : Gh) (st : St) : Prop :=
 ∀ (c : Code), jab C.P C.inv nt c = ac → ∀ extra E ph kp env a w, GSim C extra nt E g ph kp env st a w →
  WpM C.P c (fun o ph' kp' a' w' => ∃ g' env' st', GSim C extra nt E g' ph' kp' env' st' a' w' ∧ Q o g' st') ph kp a w
def WMo (C : Ctx) (nt : Nat) (aops : List AOper) (K : Gh → St → Prop) (g : Gh) (st : St) : Prop :=
 ∀ (ops : Array Oper) (k : Nat), k ≤ ops.size → (ops.toList.drop k).map (jaj C.P C.inv nt ops) = aops → ∀ extra E ph kp env a w, GSim C extra nt E g ph kp env st a w →
  OpsM C.P ops (List.range' k (ops.size - k)) (fun ph' kp' a' w' => ∃ g' env' st', GSim C extra nt E g' ph' kp' env' st' a' w' ∧ K g' st') ph kp a w
section
variable {C : Ctx} {nt : Nat} {Q Q' : Out → Gh → St → Prop} {g : Gh} {st : St}
theorem WM.mono {ac : ACode} (h : WM C nt ac Q g st) (hq : ∀ o g' st', Q o g' st' → Q' o g' st') : WM C nt ac Q' g st :=
 fun c hc extra E ph kp env a w S => jfk (h c hc extra E ph kp env a w S) fun o ph' kp' a' w' ⟨g', env', st', S', q⟩ => ⟨g', env', st', S', hq _ _ _ q⟩
theorem WM.plain {ac : ACode} (h : ∀ ph, wp (C.at ph) nt none ac (fun o st' => Q o g st') st) : WM C nt ac Q g st := by
 intro c hc extra E ph kp env a w S
 subst hc
 exact jqq S (h ph)
theorem joN {P : Program} {inv : FuncId → Option Nat} {c : Code} {x y : ACode} (h : jab P inv nt c = .seq x y) : ∃ a b, c = .seq a b ∧ jab P inv nt a = x ∧ jab P inv nt b = y := by
 cases c with
 | seq a b => simp only [jab, ACode.seq.injEq] at h; exact ⟨a, b, rfl, h.1, h.2⟩
 | region id ops d => cases d <;> simp only [jab] at h <;> (repeat' split at h) <;> cases h
 | cond c a b => simp only [jab] at h; split at h <;> cases h
 | rangeFunc f ps a b => simp only [jab] at h; (repeat' split at h) <;> cases h
 | _ => simp [jab] at h
theorem jqt {P : Program} {inv : FuncId → Option Nat} {c : Code} {o : AOpd} {x y : ACode} (h : jab P inv nt c = .cond o x y) : ∃ o' a b, c = .cond o' a b ∧ lowerOpd inv o' = some o ∧ jab P inv nt a = x ∧ jab P inv nt b = y := by
 cases c with
 | cond c a b =>
  simp only [jab] at h
  split at h
  ·rename_i c' hc; cases h; exact ⟨c, a, b, rfl, hc, rfl, rfl⟩
  ·cases h
 | region id ops d => cases d <;> simp only [jab] at h <;> (repeat' split at h) <;> cases h
 | rangeFunc f ps a b => simp only [jab] at h; (repeat' split at h) <;> cases h
 | _ => simp [jab] at h
theorem joO {P : Program} {inv : FuncId → Option Nat} {c : Code} {id : Nat} {x : ACode} (h : jab P inv nt c = .block id x) : ∃ a, c = .block id a ∧ jab P inv nt a = x := by
 cases c with
 | block i a => simp only [jab, ACode.block.injEq] at h; obtain ⟨rfl, h⟩ := h; exact ⟨a, rfl, h⟩
 | region id ops d => cases d <;> simp only [jab] at h <;> (repeat' split at h) <;> cases h
 | cond c a b => simp only [jab] at h; split at h <;> cases h
 | rangeFunc f ps a b => simp only [jab] at h; (repeat' split at h) <;> cases h
 | _ => simp [jab] at h
theorem jqu {P : Program} {inv : FuncId → Option Nat} {c : Code} {x : ACode} (h : jab P inv nt c = .loop x) : ∃ a, c = .loop a ∧ jab P inv nt a = x := by
 cases c with
 | loop a => simp only [jab, ACode.loop.injEq] at h; exact ⟨a, rfl, h⟩
 | region id ops d => cases d <;> simp only [jab] at h <;> (repeat' split at h) <;> cases h
 | cond c a b => simp only [jab] at h; split at h <;> cases h
 | rangeFunc f ps a b => simp only [jab] at h; (repeat' split at h) <;> cases h
 | _ => simp [jab] at h
theorem jhs {P : Program} {inv : FuncId → Option Nat} {c : Code} {l : List AOper} (h : jab P inv nt c = .region l) : ∃ id ops, c = .region id ops false ∧ ops.toList.map (jaj P inv nt ops) = l := by
 cases c with
 | region id ops d =>
  cases d with
  | false => simp only [jab, ACode.region.injEq] at h; exact ⟨id, ops, rfl, h⟩
  | true => simp only [jab] at h; (repeat' split at h) <;> cases h
 | cond c a b => simp only [jab] at h; split at h <;> cases h
 | rangeFunc f ps a b => simp only [jab] at h; (repeat' split at h) <;> cases h
 | _ => simp [jab] at h
theorem WM.seq {x y : ACode} (h : WM C nt x (fun o g' st' => match o with | .normal => WM C nt y Q g' st' | o => Q o g' st') g st) : WM C nt (.seq x y) Q g st := by
 intro c hc extra E ph kp env a w S
 obtain ⟨x', y', rfl, hx, hy⟩ := joN hc
 refine jsA (jfk (h x' hx extra E ph kp env a w S) ?_)
 rintro o ph' kp' a' w' ⟨g', env', st', S', q⟩
 cases o with
 | normal => exact q y' hy extra E ph' kp' env' a' w' S'
 | exit id => exact ⟨g', env', st', S', q⟩
 | ret => exact ⟨g', env', st', S', q⟩
theorem GSim.opd {extra : Keep} {E : Ent} {ph : Phase} {kp : Keep} {env : Env} {a : Act} {w : World} (S : GSim C extra nt E g ph kp env st a w) : ∃ keep, Sim C keep nt env st a w := by
 cases g with
 | idle => exact ⟨_, S.2.2⟩
 | busy ic aps hs => obtain ⟨_, _, _, _, _, _, B⟩ := S; exact ⟨_, B.sim⟩
theorem WM.cond {c : AOpd} {x y : ACode} {t : Bool} (hc : c.ev st.t = .bool t) (h1 : t = true → WM C nt x Q g st) (h2 : t = false → WM C nt y Q g st) : WM C nt (.cond c x y) Q g st := by
 intro c0 hc0 extra E ph kp env a w S
 obtain ⟨o', x', y', rfl, ho, hx, hy⟩ := jqt hc0
 obtain ⟨keep, s⟩ := S.opd
 have e := (s.opd o' c ho).1
 rw [hc] at e
 exact jrY (t := t) e (fun ht => h1 ht x' hx extra E ph kp env a w S) (fun ht => h2 ht y' hy extra E ph kp env a w S)
theorem WM.block {id : Nat} {x : ACode} (h : WM C nt x (fun o g' st' => match o with | .exit id' => if id' = id then Q .normal g' st' else Q (.exit id') g' st' | o => Q o g' st') g st) : WM C nt (.block id x) Q g st := by
 intro c hc extra E ph kp env a w S
 obtain ⟨x', rfl, hx⟩ := joO hc
 refine jqp (jfk (h x' hx extra E ph kp env a w S) ?_)
 rintro o ph' kp' a' w' ⟨g', env', st', S', q⟩
 cases o with
 | normal => exact ⟨g', env', st', S', q⟩
 | ret => exact ⟨g', env', st', S', q⟩
 | exit id' =>
  dsimp only at q ⊢
  by_cases e : id' = id
  ·rw [if_pos e] at q ⊢; exact ⟨g', env', st', S', q⟩
  ·rw [if_neg e] at q ⊢; exact ⟨g', env', st', S', q⟩
theorem WM.loop {x : ACode} (I : Nat → Gh → St → Prop) {j0 : Nat} (h0 : I j0 g st) (round : ∀ j g' st', I j g' st' → WM C nt x (fun o g2 st2 => match o with | .normal => ∃ i, i < j ∧ I i g2 st2 | o => Q o g2 st2) g' st') : WM C nt (.loop x) Q g st := by
 intro c hc extra E ph kp env a w S
 obtain ⟨x', rfl, hx⟩ := jqu hc
 refine jrZ (fun j ph kp a w => ∃ g' env' st', GSim C extra nt E g' ph kp env' st' a w ∧ I j g' st') ⟨g, env, st, S, h0⟩ ?_
 rintro j ph kp a w ⟨g', env', st', S', hI⟩
 refine jfk (round j g' st' hI x' hx extra E ph kp env' a w S') ?_
 rintro o ph' kp' a' w' ⟨g2, env2, st2, S2, q⟩
 cases o with
 | normal => obtain ⟨i, hi, q⟩ := q; exact ⟨i, hi, g2, env2, st2, S2, q⟩
 | exit id => exact ⟨g2, env2, st2, S2, q⟩
 | ret => exact ⟨g2, env2, st2, S2, q⟩
theorem WM.region {l : List AOper} (h : WMo C nt l (Q .normal) g st) : WM C nt (.region l) Q g st := by
 intro c hc extra E ph kp env a w S
 obtain ⟨id, ops, rfl, hl⟩ := jhs hc
 refine joL ?_
 rw [List.range_eq_range']
 exact h ops 0 (Nat.zero_le _) (by simpa using hl) extra E ph kp env a w S
theorem WMo.nil {K : Gh → St → Prop} (h : K g st) : WMo C nt [] K g st := by
 intro ops k hk hl extra E ph kp env a w S
 have : ops.size - k = 0 := by
  have := congrArg List.length hl
  simp at this; omega
 rw [this]
 exact jsB ⟨g, env, st, S, h⟩
theorem jdT {ops : Array Oper} {k : Nat} {f : Oper → AOper} {o : AOper} {os : List AOper} (h : (ops.toList.drop k).map f = o :: os) : ∃ x, ops[k]? = some x ∧ f x = o ∧ (ops.toList.drop (k + 1)).map f = os ∧ k + 1 ≤ ops.size ∧ ops.size - k = (ops.size - (k + 1)) + 1 := by
 have hlt : k < ops.size := by
  rcases Nat.lt_or_ge k ops.size with x | x
  ·exact x
  ·rw [List.drop_of_length_le (by simpa using x)] at h; cases h
 rw [List.drop_eq_getElem_cons (by simpa using hlt), List.map_cons, List.cons.injEq] at h
 exact ⟨ops[k], Array.getElem?_eq_getElem hlt, by simpa using h.1, h.2, hlt, by omega⟩
theorem WMo.cons {K : Gh → St → Prop} {o : AOper} {os : List AOper} (hg : o.guard = none) (h : ∀ ph, wpOp (C.at ph) none o (fun st' => WMo C nt os K g st') st) : WMo C nt (o :: os) K g st := by
 intro ops k hk hl extra E ph kp env a w S
 obtain ⟨x, hx, he, htl, hk1, hsz⟩ := jdT hl
 rw [hsz, List.range'_succ]
 refine jkF ?_
 have hw : Region.wanted x (yielded ops a.tmps) = true := by
  rcases jca (P := C.P) (inv := C.inv) (nt := nt) (ops := ops) (o := x) with ⟨s, hs⟩ | ⟨g', hg', hge, _, _⟩
  ·exfalso
   rw [← he, hs] at h
   exact jga (h ph)
  ·rw [he, hg] at hge
   subst hge
   refine jcF ?_ _
   cases hgx : x.guard with
   | none => rfl
   | some jw =>
    obtain ⟨j, want⟩ := jw
    rw [hgx] at hg'
    simp only [jbB] at hg'
    split at hg' <;> cases hg'
 refine jgv (jqr S hx hw (by rw [he]; exact h ph)) ?_
 rintro ph' kp' a' w' ⟨g', env', st', S', q⟩
 exact q ops (k + 1) hk1 htl extra E ph' kp' env' a' w' S'
theorem WMo.go {K : Gh → St → Prop} {dst : Option Nat} {f : AOpd} {xs : List AOpd} {os : List AOper} (h : wpGo C g (f.ev st.t) (xs.map (·.ev st.t)) dst (WMo C nt os K) st) : WMo C nt ({ dst := dst, op := .comm 0 (f :: xs), guard := none } :: os) K g st := by
 intro ops k hk hl extra E ph kp env a w S
 obtain ⟨x, hx, he, htl, hk1, hsz⟩ := jdT hl
 rw [hsz, List.range'_succ]
 refine jkF (jgv (om_go S hx he h) ?_)
 rintro ph' kp' a' w' ⟨g', env', st', S', q⟩
 exact q ops (k + 1) hk1 htl extra E ph' kp' env' a' w' S'
theorem WMo.recv {K : Gh → St → Prop} {dst : Option Nat} {x : AOpd} {os : List AOper} (h : jlj g (x.ev st.t) dst (WMo C nt os K) st) : WMo C nt ({ dst := dst, op := .comm 1 [x], guard := none } :: os) K g st := by
 intro ops k hk hl extra E ph kp env a w S
 obtain ⟨o, hx, he, htl, hk1, hsz⟩ := jdT hl
 rw [hsz, List.range'_succ]
 refine jkF (jgv (jr0 S hx he h) ?_)
 rintro ph' kp' a' w' ⟨g', env', st', S', q⟩
 exact q ops (k + 1) hk1 htl extra E ph' kp' env' a' w' S'
theorem jmx {gi : Nat} {b : ABody} (hbody : C.body gi = some b) {args : List AV} (hargs : args.length ≤ b.ntmps) {h : Heap} {Post : AV → Heap → Prop}
  (hwp : WM C b.ntmps b.code (fun o g st => g = .idle ∧ retO b.res Post o st) .idle ⟨argT args, h, []⟩) : ACalls C.main0 gi args h Post := by
 unfold Ctx.body jhv at hbody
 split at hbody
 ·rename_i fn hf
  split at hbody
  ·cases hbody
  ·rename_i hname
   split at hbody
   ·rename_i c rs hc hrs
    cases hbody
    refine ⟨?_, ?_⟩
    ·intro args w
     show (callFunc (C.lk gi) args).run C.P w = .ok (.enter (C.lk gi) args) w ∧ ∀ es, (callFunc (C.lk gi) args).events C.P w es = es
     refine ⟨by simp [callFunc, hf, hname, hc, mark], fun es => ?_⟩
     simp [callFunc, Sem.events_bind, hf, hname, hc, Result.evThen]
    ·intro extra kp env w R0 hbel J hJ cs hk
     have R : Rel C (kp.or extra) env h w := ⟨R0.1, R0.2, R0.3, R0.4, R0.5, R0.6, R0.7, R0.8⟩
     have S : Sim C (kp.or extra) fn.ntmps env ⟨argT args, h, []⟩ { tmps := (args.map (AV.val C.lk env)).toArray ++ Array.replicate (fn.ntmps - (args.map (AV.val C.lk env)).toArray.size) undef, defers := [] } w := by
      have hsz : (args.map (AV.val C.lk env)).toArray.size = args.length := by simp
      refine ⟨?_, ?_, ?_, rfl, by simp, R⟩
      ·have : args.length ≤ fn.ntmps := hargs
       simp; omega
      ·intro s
       rw [Array.getD_eq_getD_getElem?, Array.getElem?_append, hsz]
       simp only [argT, List.getD_eq_getElem?_getD]
       by_cases hs : s < args.length
       ·rw [if_pos hs]; simp [hs]
       ·rw [if_neg hs, List.getElem?_eq_none (by omega)]
        simp only [Option.getD_none, Array.getElem?_replicate]
        split <;> rfl
      ·intro s
       simp only [argT, List.getD_eq_getElem?_getD]
       cases hs : args[s]? with
       | none => trivial
       | some v => exact hbel v (List.mem_of_getElem? hs)
     let b : Frame := { (default : Frame) with fn := C.lk gi, kind := .normal, roundOf := none }
     have henter : Frame.enter C.P (C.lk gi) (args.map (AV.val C.lk env)).toArray .normal =
       b.atR { tmps := (args.map (AV.val C.lk env)).toArray ++ Array.replicate (fn.ntmps - (args.map (AV.val C.lk env)).toArray.size) undef, defers := [] } [.code c] := by
      simp [Frame.enter, Frame.atR, hf, hc, b]
     show J kp (G (Frame.enter C.P (C.lk gi) (args.map (AV.val C.lk env)).toArray .normal) cs) w
     rw [henter]
     obtain ⟨Fin, p, rfl⟩ := hJ
     have hJ : C.main0.fam (MJ0 C.P Fin p) := ⟨Fin, p, rfl⟩
     have HS : GSim C extra fn.ntmps ⟨kp, env, h, w⟩ .idle none kp env ⟨argT args, h, []⟩ { tmps := (args.map (AV.val C.lk env)).toArray ++ Array.replicate (fn.ntmps - (args.map (AV.val C.lk env)).toArray.size) undef, defers := [] } w :=
      ⟨rfl, ⟨R, ⟨Nat.le_refl _, rfl, rfl, rfl, fun _ _ _ _ => rfl, fun _ h => h, fun _ _ h => .inl h⟩, Ext.refl _ _, HLe.refl _, fun _ h => h, fun _ h => .inl h⟩, S⟩
     have H := hwp c rfl extra ⟨kp, env, h, w⟩ none kp env _ w HS
     refine H Fin p b [] cs rfl (by simp [b]) ?_
     rintro o ph' kp' a' w' ⟨g', env', st', S', rfl, hret⟩
     obtain ⟨rfl, hSn, hs⟩ := S'
     have hKJ : KeepJ kp extra w kp' w' := ⟨hSn.since.size, hSn.since.os, hSn.since.tape, hSn.since.output, hSn.since.block, hSn.no, hSn.no', hSn.since.hide, hSn.since.hide'⟩
     have hX : Ext h env env' := hSn.ext
     have hL : HLe h st'.h := hSn.hle
     have s0 : Sim C.main0 (kp'.or extra) fn.ntmps env' st' a' w' := jjs (ph := none) hs
     have fin : ∀ todo, (∃ h1 vs, jaV st'.h st'.m = some h1 ∧ resA st'.t h1 rs = some vs ∧ Post (retA vs) h1) → MJ0 C.P Fin p kp' (G { b.atR a' todo with mode := .returning } cs) w' := by
      rintro todo ⟨h1, vs, hcm, hres, hP⟩
      refine jdH (C := C.main0) hJ st'.m rfl s0.defers s0.rel hcm fun kp1 w1 R1 K1 => ?_
      have hl1 := jdl _ _ _ hcm
      have hbel1 : ∀ s, (st'.t s).bel h1.ok := fun s => bel_mono (fun i hi => hl1.ok hi) _ (s0.bel s)
      have q := jbE (C := C.main0) (tmps := a'.tmps) R1 s0.tmps hbel1 hrs hres
      refine hk kp1 ((retA vs).val C.lk env') w1 _ ⟨env', _, h1, rfl, hP, R1, hKJ.trans K1, hX, hL.trans hl1, q.2⟩ ⟨rfl, rfl, rfl, rfl, fn, hf, fun kp2 w2 r2 => ?_⟩
      have R2 := R1.rely r2
      exact ⟨(jbE (C := C.main0) (tmps := a'.tmps) R2 s0.tmps hbel1 hrs hres).1, fun e he => (jd7 (C := C.main0) (tmps := a'.tmps) R2 s0.tmps hbel1 hrs hres e he).part⟩
     have un : ∀ {o}, (∀ id, o ≠ .exit id) → retO rs Post o st' → ∃ h1 vs, jaV st'.h st'.m = some h1 ∧ resA st'.t h1 rs = some vs ∧ Post (retA vs) h1 := by
      intro o ho hr
      have hr' : match jaV st'.h st'.m with
       | some h1 => match resA st'.t h1 rs with
        | some vs => Post (retA vs) h1
        | none => False
       | none => False := by
       cases o with
       | exit id => exact absurd rfl (ho id)
       | normal => exact hr
       | ret => exact hr
      split at hr'
      ·rename_i h1 e1
       split at hr'
       ·rename_i vs e2; exact ⟨h1, vs, e1, e2, hr'⟩
       ·exact hr'.elim
      ·exact hr'.elim
     cases o with
     | normal => exact jdY.ctl rfl rfl (fun _ => jm0 rfl) (fin [] (un (by intro id h; cases h) hret))
     | ret => exact fun k2 => jdY.ctl rfl rfl (fun _ => jqA rfl) (fin _ (un (by intro id h; cases h) hret))
     | exit id => exact hret.elim
   ·cases hbody
 ·cases hbody
end
end Go.Ae
namespace Go.Ae
open Go.Conc
structure WIn (C : Ctx) (nt : Nat) (ic c B : Nat) (kp : Keep) (env : Env) (st : St) (a : Act) (w : World) (b : Frame) (cs : List Frame) : Prop where
 sim : Sim C (kp.or Keep.nil) nt env st a w
 ok : st.h.ok ic
 hc : (env ic).blk = c
 no : ∀ r, r < B → kp.no r
 ro : b.roundOf = none
 kind : b.kind ≠ .early
 quit : ∀ a' : Act, a'.defers = [] → ∃ n, QuitsIn C.P n (G (b.atR a' []) cs)
def WW (C : Ctx) (p : AProm) (ic nt : Nat) (ac : ACode) (st : St) : Prop :=
 ∀ code, jab C.P C.inv nt code = ac → ∀ c B kp env a w b cs, WIn C nt ic c B kp env st a w b cs → JW C.P c (p.prom C.lk B) kp (G (b.atR a [.code code]) cs) w
def WWo (C : Ctx) (p : AProm) (ic nt : Nat) (aops : List AOper) (st : St) : Prop :=
 ∀ (ops : Array Oper) (k : Nat), k ≤ ops.size → (ops.toList.drop k).map (jaj C.P C.inv nt ops) = aops → ∀ c B kp env a w b cs, WIn C nt ic c B kp env st a w b cs →
  JW C.P c (p.prom C.lk B) kp (G (b.atR a [.inRegion ops (List.range' k (ops.size - k))]) cs) w
def jlk (p : AProm) (ic : Nat) (x y : AOpd) (st : St) : Prop :=
 st.m = [] ∧ x.ev st.t = .chan ic ∧ ∃ n, y.ev st.t = p.av n ∧ ∀ vs, p.blk = some vs → ∃ u, st.h.get n = some (.cells vs true u)
section
variable {C : Ctx} {p : AProm} {ic nt : Nat} {st : St}
theorem jim {c : Nat} {Φ : Prom} {keep : Keep} {env : Env} {a : Act} {w : World} (h : Sim C keep nt env st a w) : Sim (C.work c Φ) keep nt env st a w := ⟨h.size, h.tmps, h.bel, h.defers, h.marks, h.rel.1, h.rel.2, h.rel.3, h.rel.4, h.rel.5, h.rel.6, h.rel.7, h.rel.8⟩
theorem jkG {c : Nat} {Φ : Prom} {keep : Keep} {env : Env} {a : Act} {w : World} (h : Sim (C.work c Φ) keep nt env st a w) : Sim C keep nt env st a w := ⟨h.size, h.tmps, h.bel, h.defers, h.marks, h.rel.1, h.rel.2, h.rel.3, h.rel.4, h.rel.5, h.rel.6, h.rel.7, h.rel.8⟩
theorem WIn.far {c B : Nat} {Φ : Prom} {kp kp' : Keep} {env env' : Env} {st' : St} {a a' : Act} {w w' : World} {b : Frame} {cs : List Frame} (I : WIn C nt ic c B kp env st a w b cs) (F : Far (C.work c Φ) Keep.nil nt kp env st w kp' env' st' a' w') : WIn C nt ic c B kp' env' st' a' w' b cs :=
 ⟨jkG F.sim, F.grow.same _ I.ok, by rw [F.ext ic I.ok]; exact I.hc, fun r hr => F.keepJ.no r (I.no r hr), I.ro, I.kind, I.quit⟩
theorem WW.seq {x y : ACode} (h : ∀ c Φ, wp (C.work c Φ) nt none x (fun o st' => o = .normal ∧ WW C p ic nt y st') st) : WW C p ic nt (.seq x y) st := by
 intro code hcode c B kp env a w b cs I
 obtain ⟨x', y', rfl, hx, hy⟩ := joN hcode
 have low : jab (C.work c (p.prom C.lk B)).P (C.work c (p.prom C.lk B)).inv nt x' = x := hx
 refine (jdB C.P c (p.prom C.lk B)).ctl rfl rfl (fun _ => jmW) ?_
 have H := jdV (C := C.work c (p.prom C.lk B)) (extra := Keep.nil) (nt := nt) default none (jb3 _ none) (jcq _ none) x' (fun o st' => o = .normal ∧ WW C p ic nt y st') kp env st a w (by rw [low]; exact h c _) (jim I.sim) (by intro l hl; cases hl)
 refine H _ (.inl rfl) b [.code y'] cs I.ro I.kind ?_
 rintro o kp' a' w' ⟨env', st', F, _, _, rfl, hW⟩
 exact hW y' hy c B kp' env' a' w' b cs (I.far F)
theorem WW.region {l : List AOper} (h : WWo C p ic nt l st) : WW C p ic nt (.region l) st := by
 intro code hcode c B kp env a w b cs I
 obtain ⟨id, ops, rfl, hl⟩ := jhs hcode
 refine (jdB C.P c (p.prom C.lk B)).ctl rfl rfl (fun _ => jf6) ?_
 rw [List.range_eq_range']
 exact h ops 0 (Nat.zero_le _) (by simpa using hl) c B kp env a w b cs I
theorem joP {ops : Array Oper} {x : Oper} {o : AOper} {C' : Ctx} {nid : Option Nat} {K : St → Prop} (he : jaj C'.P C'.inv nt ops x = o) (hg : o.guard = none) (h : wpOp C' nid o K st) (y : Nat → Option Bool) : Region.wanted x y = true := by
 rcases jca (P := C'.P) (inv := C'.inv) (nt := nt) (ops := ops) (o := x) with ⟨s, hs⟩ | ⟨g', hg', hge, _, _⟩
 ·exfalso
  rw [← he, hs] at h
  exact jga h
 ·rw [he, hg] at hge
  subst hge
  refine jcF ?_ _
  cases hgx : x.guard with
  | none => rfl
  | some jw =>
   obtain ⟨j, want⟩ := jw
   rw [hgx] at hg'
   simp only [jbB] at hg'
   split at hg' <;> cases hg'
theorem WWo.cons {o : AOper} {os : List AOper} (hg : o.guard = none) (h : ∀ c Φ, wpOp (C.work c Φ) none o (fun st' => WWo C p ic nt os st') st) : WWo C p ic nt (o :: os) st := by
 intro ops k hk hl c B kp env a w b cs I
 obtain ⟨x, hx, he, htl, hk1, hsz⟩ := jdT hl
 rw [hsz, List.range'_succ]
 have he' : jaj (C.work c (p.prom C.lk B)).P (C.work c (p.prom C.lk B)).inv nt ops x = o := he
 have hw := joP (C' := C.work c (p.prom C.lk B)) he' hg (h c _) (yielded ops a.tmps)
 have H := jeA (C := C.work c (p.prom C.lk B)) (extra := Keep.nil) (jim I.sim) none hx hw he' (h c _)
 refine H _ (.inl rfl) b _ [] cs I.ro I.kind ?_
 rintro kp' a' w' ⟨env', st', F, _, _, q⟩
 exact q ops (k + 1) hk1 htl c B kp' env' a' w' b cs (I.far F)
theorem jmy {ops : Array Oper} {o : Oper} {dst : Option Nat} {x y : AOpd} (h : jaj C.P C.inv nt ops o = { dst := dst, op := .comm 2 [x, y], guard := none }) :
  ∃ ch v, o.op = .send ch v ∧ lowerOpd C.inv ch = some x ∧ lowerOpd C.inv v = some y ∧ o.dst = dst ∧ o.guard = none := by
 unfold jaj at h
 split at h
 ·rename_i aop g h1 h2 h3
  simp only [AOper.mk.injEq] at h
  obtain ⟨hd, rfl, rfl⟩ := h
  have hg : o.guard = none := by
   cases hg : o.guard with
   | none => rfl
   | some jw =>
    obtain ⟨j, want⟩ := jw
    rw [hg] at h3
    simp only [jbB] at h3
    split at h3 <;> cases h3
  cases hop : o.op with
  | send ch v =>
   rw [hop] at h1
   simp only [lowerOp] at h1
   split at h1
   ·rename_i c' x' hc hx
    cases h1
    exact ⟨ch, v, rfl, hc, hx, hd, hg⟩
   ·cases h1
  | call c =>
   exfalso
   rw [hop] at h1
   have h1' : ja1 C.P C.inv c = some (.comm 2 [x, y]) := h1
   unfold ja1 at h1'
   split at h1'
   ·split at h1'
    ·simp only [Option.map_eq_some_iff] at h1'; obtain ⟨_, _, h1'⟩ := h1'; cases h1'
    ·unfold jaT at h1'
     repeat' split at h1'
     all_goals first
      | (cases h1'; done)
      | (simp only [Option.map_eq_some_iff] at h1'; obtain ⟨_, _, h1'⟩ := h1'; cases h1'; done)
    ·cases h1'
   ·cases h1'
  | makeFunc fn x y =>
   exfalso
   rw [hop] at h1
   cases fn <;> simp only [lowerOp] at h1
   all_goals first | (cases h1; done) | ((repeat' split at h1) <;> cases h1; done)
  | makeMap _ r => exfalso; rw [hop] at h1; cases r <;> simp only [lowerOp, lowerMap] at h1 <;> (repeat' split at h1) <;> cases h1
  | mapUpdate _ _ _ _ => exfalso; rw [hop] at h1; simp only [lowerOp, lowerMap] at h1; (repeat' split at h1) <;> first | (cases h1; done) | (simp only [Option.map_eq_some_iff] at h1; obtain ⟨_, _, h1⟩ := h1; cases h1; done)
  | insert _ _ _ _ => exfalso; rw [hop] at h1; simp only [lowerOp, lowerMap] at h1; (repeat' split at h1) <;> first | (cases h1; done) | (simp only [Option.map_eq_some_iff] at h1; obtain ⟨_, _, h1⟩ := h1; cases h1; done)
  | lookup _ _ _ _ => exfalso; rw [hop] at h1; simp only [lowerOp, lowerMap] at h1; (repeat' split at h1) <;> first | (cases h1; done) | (simp only [Option.map_eq_some_iff] at h1; obtain ⟨_, _, h1⟩ := h1; cases h1; done)
  | _ =>
   exfalso
   rw [hop] at h1
   first
    | (simp only [lowerOp] at h1; (repeat' split at h1) <;> first | (cases h1; done) | (simp only [Option.map_eq_some_iff] at h1; obtain ⟨_, _, h1⟩ := h1; cases h1; done))
    | (unfold lowerOp at h1; simp only [jbu, jaF] at h1; (repeat' split at h1) <;> first | (cases h1; done) | (simp only [Option.map_eq_some_iff] at h1; obtain ⟨_, _, h1⟩ := h1; cases h1; done))
 ·cases h
theorem jht (hp : p.Ok) {ops : Array Oper} {i : Nat} {o : Oper} {dst : Option Nat} {x y : AOpd} (ho : ops[i]? = some o) (hl : jaj C.P C.inv nt ops o = { dst := dst, op := .comm 2 [x, y], guard := none }) (hS : jlk p ic x y st)
  {c B : Nat} {kp : Keep} {env : Env} {a : Act} {w : World} {b : Frame} {cs : List Frame} (I : WIn C nt ic c B kp env st a w b cs) : JW C.P c (p.prom C.lk B) kp (G (b.atR a [.inRegion ops [i]]) cs) w := by
 obtain ⟨ch, v, hop, hx, hy, rfl, hg⟩ := jmy hl
 obtain ⟨hm, hch, n, hv, hblk⟩ := hS
 have hw := jcF hg (yielded ops a.tmps)
 have hev : a.eval ch = .chan (some c) := by
  have := (I.sim.opd ch x hx).1
  rw [hch] at this
  simp only [AV.val, I.hc] at this
  exact this
 have hvv : a.eval v = (p.av n).val C.lk env := by rw [(I.sim.opd v y hy).1, hv]
 have hd0 : a.defers = [] := by rw [I.sim.defers, hm]; rfl
 have step : ∀ w1, stepG C.P false (G (b.atR a [.inRegion ops [i]]) cs) w1 = .comm (G (b.atR a [.inRegion ops [i]]) cs) #[scase c ((p.av n).val C.lk env) (.tuple #[])] true .send w1 #[] := by
  intro w1
  have h1 : (execOp a.eval o).run C.P w1 = .ok (.comm #[scase c ((p.av n).val C.lk env) (.tuple #[])] true .send) w1 := by
   simp only [execOp, hop, Sem.run_pure, hev, hvv, scase]
  have h2 : (execOp a.eval o).events C.P w1 #[] = #[] := by simp only [execOp, hop, Sem.events_pure]
  rw [jm1 ho hw (fun c' e => by rw [hop] at e; cases e) I.kind h1]
  simp only [evs, h2, seen_none]
 obtain ⟨m, hq⟩ := I.quit (a.put o.dst undef) (by cases o.dst <;> exact hd0)
 refine .send ((p.av n).val C.lk env) (.tuple #[]) (fun r => p.blk ≠ none ∧ r = (env n).blk) (m + 1) rfl (fun kp1 w1 _ => step w1) (fun kp1 w1 r => ?_) (fun r hr => ?_) ?_
 ·refine ⟨env n, hp.shift _ _ _, ?_⟩
  have R1 := (I.sim.rely r).rel
  cases hb : p.blk with
  | none => exact fun r hr => hr.1 rfl
  | some vs =>
   obtain ⟨u, hu⟩ := hblk vs hb
   have hk : ¬ kp.no (env n).blk := fun x => I.sim.rel.kept n _ hu rfl (.inl x)
   refine ⟨?_, R1.lt n _ hu, fun r => by simp, fun k v hkv => ?_⟩
   ·rcases Nat.lt_or_ge (env n).blk B with z | z
    ·exact absurd (I.no _ z) hk
    ·exact z
   ·rw [R1.cell hu hkv]
    congr 1
    exact jcU (fun _ h => h.elim) v (hp.cells vs hb v (List.mem_of_getElem? hkv))
 ·obtain ⟨hb, rfl⟩ := hr
  cases hbb : p.blk with
  | none => exact absurd hbb hb
  | some vs =>
   obtain ⟨u, hu⟩ := hblk vs hbb
   exact ⟨I.sim.rel.lt n _ hu, fun x => I.sim.rel.kept n _ hu rfl (.inl x)⟩
 ·rw [jhr ho]
  exact QuitsIn.ctl rfl (fun w => jdi) hq
theorem WWo.send (hp : p.Ok) {dst : Option Nat} {x y : AOpd} (h : jlk p ic x y st) : WWo C p ic nt [{ dst := dst, op := .comm 2 [x, y], guard := none }] st := by
 intro ops k hk hl c B kp env a w b cs I
 obtain ⟨o, ho, he, htl, hk1, hsz⟩ := jdT hl
 have h0 : ops.size - (k + 1) = 0 := by
  have := congrArg List.length htl
  simp at this; omega
 rw [hsz, h0]
 exact jht hp ho he h I
end
end Go.Ae
namespace Go.Ae
open Go.Conc
section
variable {C : Ctx} {p : AProm} {ic nt : Nat} {st : St}
theorem jgy {ms : List Nat} {os : List AOper} : ∀ {ys : List Nat}, jgX ms os ys = true → ys.Pairwise fun x y => (ms.getD y 0).testBit x = true ∨ pairB (os.getD x default) (os.getD y default) = true
 | [], _ => .nil
 | x :: ys, h => by
  simp only [jgX, Bool.and_eq_true, List.all_eq_true] at h
  refine .cons (fun y hy => ?_) (jgy h.2)
  have := h.1 y hy
  simpa only [Bool.or_eq_true] using this
theorem jqv {P : Program} {inv : FuncId → Option Nat} {c : Code} {n : Nat} {l : List DItem} (h : jab P inv nt c = .draw n l) : ∃ id ops, c = .region id ops true ∧ jce P inv nt ops = some (n, l) := by
 cases c with
 | region id ops d =>
  cases d with
  | false => simp [jab] at h
  | true =>
   simp only [jab] at h
   split at h
   ·rename_i n' l' hd
    cases h
    exact ⟨id, ops, rfl, hd⟩
   ·cases h
 | cond c a b => simp only [jab] at h; split at h <;> cases h
 | rangeFunc f ps a b => simp only [jab] at h; (repeat' split at h) <;> cases h
 | _ => simp [jab] at h
theorem jmz {ops : Array Oper} {n : Nat} {l : List DItem} {d : DItem} (h : jce C.P C.inv nt ops = some (n, l ++ [d])) (hc : cls d.o.op = 6) :
  (∀ x ∈ l, ((masks ops).getD d.k 0).testBit x.k = true) ∧ (∀ x ∈ l, x.k ≠ d.k) := by
 have I := jcb h
 have hrows := List.pairwise_append.1 I.rows
 refine ⟨fun x hx => ?_, fun x hx => (hrows.2.2 x hx d (by simp)).1⟩
 unfold jce at h
 dsimp only at h
 split at h
 ·rename_i hcc
  obtain ⟨h1, h2, h3, h4, h5⟩ := hcc
  simp only [Option.some.injEq, Prod.mk.injEq] at h
  obtain ⟨_, hl⟩ := h
  have hp := jgy h5
  have keys : ∀ (os : List AOper) (ys ahead : List Nat), (jbT (masks ops) os ahead ys).map (·.1) = ys := by
   intro os ys
   induction ys with
   | nil => intro a; rfl
   | cons y ys ih => intro a; simp [jbT, ih]
  have hk := congrArg (List.map (·.k)) hl
  rw [List.map_map] at hk
  have hk2 : greedy (masks ops) (ops.toList.map (jaj C.P C.inv nt ops)) (ops.toList.map (jaj C.P C.inv nt ops)).length 0 = (l ++ [d]).map (·.k) := by
   rw [← hk]
   exact (keys _ _ []).symm
  rw [hk2, List.map_append] at hp
  have hp2 := (List.pairwise_append.1 hp).2.2 x.k (List.mem_map.2 ⟨x, hx, rfl⟩) d.k (by simp)
  rcases hp2 with hm | hpr
  ·exact hm
  ·exfalso
   have hdo : d.o = (ops.toList.map (jaj C.P C.inv nt ops)).getD d.k default := by
    have hd : d ∈ l ++ [d] := by simp
    rw [← hl] at hd
    obtain ⟨q, _, rfl⟩ := List.mem_map.1 hd
    rfl
   simp only [pairB, Bool.and_eq_true, bne_iff_ne] at hpr
   rw [← hdo] at hpr
   exact hpr.1.2 hc
 ·cases h
theorem WW.draw (hp : p.Ok) {n k : Nat} {mem : Bool} {ck : List Nat} {dst : Option Nat} {x y : AOpd} {l : List DItem} (h : ∀ c Φ, jdG (C.work c Φ) n l (fun st' => jlk p ic x y st') st) :
  WW C p ic nt (.draw n (l ++ [{ k := k, mem := mem, ck := ck, o := { dst := dst, op := .comm 2 [x, y], guard := none } }])) st := by
 intro code hcode c B kp env a w b cs I
 obtain ⟨id, ops, rfl, hd⟩ := jqv hcode
 have IT := jcb hd
 obtain ⟨hmask, hne⟩ := jmz hd rfl
 obtain ⟨os, hos, hlo⟩ := IT.src _ (List.mem_append_right l (List.mem_singleton.2 rfl))
 dsimp only at hos hlo hmask hne
 have hks : k < ops.size := (Array.getElem?_eq_some_iff.1 hos).1
 have htail : jnb ops (some k) := by
  intro s hs
  cases hs
  refine ⟨hks, fun j hj hjk => ?_⟩
  obtain ⟨d, hdm, rfl⟩ := IT.cover j hj
  rcases List.mem_append.1 hdm with hm | hm
  ·exact hmask d hm
  ·rw [List.mem_singleton] at hm; subst hm; exact absurd rfl hjk
 let J := JW C.P c (p.prom C.lk B)
 have hcl := jdB C.P c (p.prom C.lk B)
 -- how an operation is carried out here
 let op : Doing := fun i K kp a w => ∀ rest, (i = k → rest = []) → (∀ kp' a' w', K kp' a' w' → J kp' (G (b.atR a' [.inRegion ops rest]) cs) w') → J kp (G (b.atR a [.inRegion ops (i :: rest)]) cs) w
 have hop : ∀ i K kp a w, some k ≠ some i → OpJ (C.work c (p.prom C.lk B)) none ops i K kp a w → op i K kp a w := fun i K kp a w _ ho rest _ hk => ho _ (.inl rfl) b rest [] cs I.ro I.kind hk
 have hmono : ∀ i (K K' : Keep → Act → World → Prop) kp a w, (∀ kp a w, K kp a w → K' kp a w) → op i K kp a w → op i K' kp a w := fun i K K' kp a w hm ho rest hr hk => ho rest hr fun kp' a' w' q => hk kp' a' w' (hm _ _ _ q)
 have IT' : Items (C.work c (p.prom C.lk B)) nt ops n (l ++ [{ k := k, mem := mem, ck := ck, o := { dst := dst, op := .comm 2 [x, y], guard := none } }]) := jcb (C := C.work c (p.prom C.lk B)) hd
 have H := jiS (C := C.work c (p.prom C.lk B)) (extra := Keep.nil) none (some k) htail (op := op) hop hmono IT' (l' := l) (List.sublist_append_left _ _)
  (fun d hdm => by
   rcases List.mem_append.1 hdm with hm | hm
   ·exact .inl hm
   ·rw [List.mem_singleton] at hm; subst hm; exact .inr rfl)
  (fun d hdm e => by cases e; exact hne d hdm rfl) (by have := IT.len; simpa using this) (Q := fun _ _ _ => False) (h c _) (jim I.sim)
  (fun kp' env' st' a' w' F _ _ hS => ⟨fun e => (by cases e), fun s e => by
   cases e
   intro rest hr _
   rw [hr rfl]
   exact jht hp hos hlo hS (I.far F)⟩)
 -- every order
 have sound : ∀ (fuel t : Nat) (listed : Array Bool) (kp : Keep) (a : Act) (w : World), AnyJ op (some k) ops (fun _ _ _ => False) fuel listed kp a w → J kp (G (b.atR a [.inRegion ops (Region.linearise.go .any ops fuel t listed [])]) cs) w := by
  intro fuel
  induction fuel with
  | zero => intro t listed kp a w h; exact h.2.elim
  | succ fuel ih =>
   intro t listed kp a w h
   obtain ⟨h₀, h₁⟩ := h
   rcases jcA (ops := ops) fuel t listed with ⟨hr, e⟩ | ⟨i, t', hi, e⟩
   ·exact (h₀ hr).elim
   ·rw [e]
    obtain ⟨ho, h2⟩ := h₁ i hi
    exact h2 _ (fun hik => jgN (ho (by rw [hik])) _ _) fun kp' a' w' q => ih _ _ _ _ _ q
 refine hcl.go rfl fun kp1 w1 r => ⟨_, _, _, jd5, rfl, ⟨rfl, rfl, rfl, Nat.le_refl _, fun _ _ => rfl⟩, fun e he => (by simp at he), ?_⟩
 refine hcl.rely ?_ (r.at _)
 have hm : C.P.follows .mixedOrders = true := C.mixed
 simp only [Region.schedule, hm, Bool.true_or, if_true]
 exact sound _ _ _ _ _ _ H
/-! ### Birth and end -/
def jfz (P : Program) : Frame := { (default : Frame) with fn := P.funcs.size, defers := [], mode := .panicking [goexitEntry] }
theorem jr1 {P : Program} {f : FuncId} {cap args : Array Value} {w : World} (h : ∀ zas w, (callFunc f zas).run P w = .ok (.enter f zas) w ∧ ∀ es, (callFunc f zas).events P w es = es) :
  stepG P false (born P { target := .fn (.func f) cap, args := args }) w = .go (G (Frame.enter P f (args ++ cap) .deferred) [jfz P]) w #[] := by
 have h1 : (invoke (.fn (.func f) cap) args).run P w = .ok (.enter f (args ++ cap)) w := by simp only [invoke]; exact (h _ w).1
 have h2 : (invoke (.fn (.func f) cap) args).events P w #[] = #[] := by simp only [invoke]; exact (h _ w).2 #[]
 simp [born, stepG, unwind, callDeferred, Sem.runT_eq, h1, h2, GStep.after, G, jfz, seen_none]
theorem joQ (P : Program) : QuitsIn P 1 (G (jfz P) []) := by
 refine .inr ⟨rfl, { frame := jfz P, callers := [], status := .finished, dying := none }, fun w => ?_, rfl⟩
 have h : (default : Frame).todo = [] := rfl
 simp [G, jfz, stepG, unwind, Frame.catches, goexitEntry, h]
theorem jr2 {P : Program} {fn : Func} {b : Frame} {a : Act} (hf : P.funcs[b.fn]? = some fn) (hr : fn.results = #[]) (hk : b.kind = .deferred) (hro : b.roundOf = none) (hd : a.defers = []) : ∃ n, QuitsIn P n (G (b.atR a []) [jfz P]) := by
 refine ⟨3, QuitsIn.ctl rfl (fun w => jm0 hro) ?_⟩
 refine QuitsIn.ctl (g' := G (jfz P) []) rfl (fun w => ?_) (joQ P)
 have h1 := results_none hr a.tmps P w
 have h2 := events_results_none (P := P) (w := w) hr a.tmps
 simp [G, stepG, unwind, Frame.atR, hd, hf, Sem.runT_eq, h1, h2, doReturn, hk, GStep.after, jfz, goexitEntry, seen_none]
theorem jmA (hp : p.Ok) {gw : Nat} {b : ABody} (hbody : C.body gw = some b) (hres : b.res = []) {first args cap : List AV} (hargs : (first ++ args ++ cap).length ≤ b.ntmps) {h : Heap} (hic : h.ok ic)
  (hw : WW C p ic b.ntmps b.code ⟨argT (first ++ args ++ cap), h, []⟩) : joM C gw first args cap ic h p := by
 intro B kp env w R hB hno hhide hbel
 unfold Ctx.body jhv at hbody
 split at hbody
 ·rename_i fn hf
  split at hbody
  ·cases hbody
  ·rename_i hname
   split at hbody
   ·rename_i c rs hc hrs
    cases hbody
    dsimp only at hres
    subst hres
    have hresults : fn.results = #[] := by
     cases hl : fn.results.toList with
     | nil => simpa using hl
     | cons r rs =>
      rw [hl] at hrs
      unfold lowerRess at hrs
      split at hrs <;> cases hrs
    have hent : ∀ zas w, (callFunc (C.lk gw) zas).run C.P w = .ok (.enter (C.lk gw) zas) w ∧ ∀ es, (callFunc (C.lk gw) zas).events C.P w es = es := by
     intro zas w
     refine ⟨by simp [callFunc, hf, hname, hc, mark], fun es => ?_⟩
     simp [callFunc, Sem.events_bind, hf, hname, hc, Result.evThen]
    have hcl := jdB C.P (env ic).blk (p.prom C.lk B)
    refine hcl.go rfl fun kp1 w1 r => ⟨_, w1, #[], jr1 hent, rfl, KeepW.refl _ _, fun e he => (by simp at he), ?_⟩
    have hvals : ((first ++ args).map (AV.val C.lk env)).toArray ++ (cap.map (AV.val C.lk env)).toArray = ((first ++ args ++ cap).map (AV.val C.lk env)).toArray := by simp
    rw [hvals]
    have R1 := R.rely r
    have S : Sim C (kp1.or Keep.nil) fn.ntmps env ⟨argT (first ++ args ++ cap), h, []⟩ { tmps := ((first ++ args ++ cap).map (AV.val C.lk env)).toArray ++ Array.replicate (fn.ntmps - ((first ++ args ++ cap).map (AV.val C.lk env)).toArray.size) undef, defers := [] } w1 := by
     generalize first ++ args ++ cap = vs at hargs hbel ⊢
     have hsz : (vs.map (AV.val C.lk env)).toArray.size = vs.length := by simp
     refine ⟨?_, ?_, ?_, rfl, by simp, R1⟩
     ·have : vs.length ≤ fn.ntmps := hargs
      simp; omega
     ·intro s
      rw [Array.getD_eq_getD_getElem?, Array.getElem?_append, hsz]
      simp only [argT, List.getD_eq_getElem?_getD]
      by_cases hs : s < vs.length
      ·rw [if_pos hs]; simp [hs]
      ·rw [if_neg hs, List.getElem?_eq_none (by omega)]
       simp only [Option.getD_none, Array.getElem?_replicate]
       split <;> rfl
     ·intro s
      simp only [argT, List.getD_eq_getElem?_getD]
      cases hs : vs[s]? with
      | none => trivial
      | some v => exact hbel v (List.mem_of_getElem? hs)
    let b : Frame := { (default : Frame) with fn := C.lk gw, kind := .deferred, roundOf := none }
    have henter : Frame.enter C.P (C.lk gw) ((first ++ args ++ cap).map (AV.val C.lk env)).toArray .deferred =
      b.atR { tmps := ((first ++ args ++ cap).map (AV.val C.lk env)).toArray ++ Array.replicate (fn.ntmps - ((first ++ args ++ cap).map (AV.val C.lk env)).toArray.size) undef, defers := [] } [.code c] := by
     simp [Frame.enter, Frame.atR, hf, hc, b]
    rw [henter]
    refine hw c rfl _ B kp1 env _ w1 b _ ⟨S, hic, rfl, fun q hq => ?_, rfl, by simp [b], fun a' ha => jr2 hf hresults rfl rfl ha⟩
    rw [r.eq]
    exact .inl (hno q (by omega))
   ·cases hbody
 ·cases hbody
end
end Go.Ae
namespace Go.Ae
def waveP (p : PlanP) (e : EmitP) (M : Nat) : AProm := ⟨fun n => .slice n 0 M (.known M), some (smps (wv p e M M))⟩
theorem waveP_ok (p : PlanP) (e : EmitP) (M : Nat) : (waveP p e M).Ok := by
 refine ⟨fun lk n env => rfl, fun n q hq => hq (by simp [waveP]), fun vs h v hv => ?_⟩
 simp only [waveP, Option.some.injEq] at h
 subst h
 simp only [smps, List.mem_flatMap, List.mem_cons, List.not_mem_nil, or_false] at hv
 obtain ⟨x, _, rfl | rfl⟩ := hv <;> trivial
theorem Has.work {C : Ctx} {T : List Nat} {c : Nat} {Φ : Prom} (h : Has C T) : Has (C.work c Φ) T := fun g hg b hb => h g hg b hb
theorem Has.main0 {C : Ctx} {T : List Nat} (h : Has C T) : Has C.main0 T := fun g hg b hb => h g hg b hb
theorem Has.at {C : Ctx} {T : List Nat} (h : Has C T) : ∀ ph, Has (C.at ph) T
 | none => fun g hg b hb => h g hg b hb
 | some _ => fun g hg b hb => h g hg b hb
section
variable {C : Ctx}
set_option maxRecDepth 20000 in
theorem jr3 (hC : Has C T256) {p : PlanP} {e : EmitP} {vp vb vc : AV} {M cw sw mw ic u1 u2 u3 : Nat} {x1 x2 x3 : Bool} {h : Heap} (ok : EmOk p e) (h65 : e.ok64) (B : RV h vb e.bits) (W : RV h vc (codeL p.d e.prn)) (v1 : vp.one = true) (hm : M ≤ 1048576)
  (g1 : h.get cw = some (.cells [.chan ic] x1 u1)) (g2 : h.get sw = some (.cells (srcA p e vp vb vc).cells x2 u2)) (g3 : h.get mw = some (.cells [.int .i64 (M : Nat)] x3 u3)) (hic : h.ok ic) :
  joM C 256 [] [] [.ptr cw 0, .ptr sw 0, .ptr mw 0] ic h (waveP p e M) := by
 refine jmA (waveP_ok p e M) (hC.body (by decide) tab256) rfl (Nat.le_of_ble_eq_true rfl) hic ?_
 refine WW.draw (l := [⟨0, true, [], ⟨some 3, .load false 1 (.tmp 0), none⟩⟩, ⟨1, false, [], ⟨some 4, .load true 17 (.tmp 1), none⟩⟩, ⟨2, false, [], ⟨some 5, .load false 1 (.tmp 2), none⟩⟩, ⟨3, false, [0], ⟨some 6, .call (.const (.func 257 [] [])) [.tmp 4, .tmp 5], none⟩⟩]) (waveP_ok p e M) fun c Φ => ?_
 have hW : Has (C.work c Φ) T256 := hC.work
 have hcw := Heap.lt_of_get g1
 have hr : HSub h (h.reserve 5) := HSub.reserve (HSub.refl h) 5
 have kw := joK (C := C.work c Φ) (hW.sub (T' := T257) (by decide)) (p := p) (e := e) (vp := vp) (vb := vb) (vc := vc) (M := M) (h := h.reserve 5) ok h65 (B.mono hr) (W.mono hr) v1 hm
 have q17 : ∀ x u, loadB true 17 0 (some (.cells (srcA p e vp vb vc).cells x u)) = some (srcA p e vp vb vc) := fun _ _ => rfl
 show wp (C.work c Φ) 7 none (.draw 5 [⟨0, true, [], ⟨some 3, .load false 1 (.tmp 0), none⟩⟩, ⟨1, false, [], ⟨some 4, .load true 17 (.tmp 1), none⟩⟩, ⟨2, false, [], ⟨some 5, .load false 1 (.tmp 2), none⟩⟩, ⟨3, false, [0], ⟨some 6, .call (.const (.func 257 [] [])) [.tmp 4, .tmp 5], none⟩⟩]) (fun o st' => jlk (waveP p e M) ic (.tmp 3) (.tmp 6) st') ⟨argT [.ptr cw 0, .ptr sw 0, .ptr mw 0], h, []⟩
 refine zs4 @g1 @g2 @g3 @q17 ?_
 refine jaa.of kw ?_
 rintro r h' ⟨s1, i, hi, rfl, gi⟩
 have gc : h'.get cw = h.get cw := s1.get cw (by simp only [Heap.size_reserve]; omega)
 refine zs2 @gc @g1 ?_
 exact ⟨rfl, rfl, i, rfl, fun vs hvs => ⟨0, by simp only [waveP, Option.some.injEq] at hvs; rw [← hvs]; exact gi⟩⟩
end
end Go.Ae
namespace Go.Ae
theorem jll {H : Heap} {v : AV} {sz j : Nat} {cs : List AV} (h1 : j ∉ v.ids) (h2 : j < H.size) : (snocH H none v sz cs).get j = H.get j := by
 unfold snocH
 split
 ·rename_i i o n c
  have : j ≠ i := by simpa [AV.ids] using h1
  show ((H.put i .dead).push _).get j = _
  rw [Heap.get_push, if_neg (by simp; omega)]
  show (if j = i then _ else H.get j) = _
  rw [if_neg this]
 ·show (H.push _).get j = _
  rw [Heap.get_push, if_neg (by omega)]
theorem jr4 {h0 h : Heap} {sz n : Nat} {v : AV} {cs : List AV} (A : Grw h0 h sz v n cs) : ∀ j ∈ v.ids, h0.size ≤ j ∧ j < h.size := by
 obtain ⟨_, _, _, ⟨rfl, _⟩ | ⟨i, ex, hi, rfl, hg⟩⟩ := A
 ·simp [AV.ids]
 ·intro j hj
  simp only [AV.ids, List.mem_singleton] at hj
  subst hj; exact ⟨hi, Heap.lt_of_get hg⟩
theorem RV.off {h h' : Heap} {v : AV} {l : List Int} (H : RV h v l) (hh : ∀ i ∈ v.ids, h'.get i = h.get i) : RV h' v l := by
 obtain ⟨a, ⟨rfl, h1⟩ | ⟨i, o, c, ws, wr', u', rfl, hg', hle, hc⟩⟩ := H
 ·exact ⟨a, .inl ⟨rfl, h1⟩⟩
 ·exact ⟨a, .inr ⟨i, o, c, ws, wr', u', rfl, (hh i (by simp [AV.ids])).trans hg', hle, hc⟩⟩
theorem RV.freeze {h : Heap} {v : AV} {l : List Int} (H : RV h v l) : RV h.freeze v l := by
 obtain ⟨a, ⟨rfl, h1⟩ | ⟨i, o, c, ws, wr', u', rfl, hg', hle, hc⟩⟩ := H
 ·exact ⟨a, .inl ⟨rfl, h1⟩⟩
 ·exact ⟨a, .inr ⟨i, o, c, ws, false, u', rfl, by rw [jb7, hg']; rfl, hle, hc⟩⟩
def SrcV (h : Heap) (v : AV) (k : Nat) (cs : List AV) : Prop := cs.length = k * 17 ∧ ((v = .nilslice ∧ k = 0) ∨ ∃ i ex wr, v = .slice i 0 k (.unk 0) ∧ h.get i = some (.cells (cs ++ ex) wr 17))
def Srcs (h : Heap) (p : PlanP) (es : List EmitP) (k : Nat) (cs : List AV) (bad : Nat → Prop) : Prop :=
 cs.length = k * 17 ∧ ∀ i, i < k → ∃ vp vb vc, vp.one = true ∧ cut cs (i * 17) 17 = (srcA p (es.getD i eD) vp vb vc).cells ∧ RV h vb (es.getD i eD).bits ∧ RV h vc (codeL p.d (es.getD i eD).prn) ∧ (∀ j ∈ vb.ids, ¬ bad j) ∧ ∀ j ∈ vc.ids, ¬ bad j
theorem Srcs.turn {h h' : Heap} {p : PlanP} {es : List EmitP} {k : Nat} {cs : List AV} {bad bad' : Nat → Prop} (H : Srcs h p es k cs bad) (hg : ∀ i, ¬ bad i → h.get i ≠ none → h'.get i = h.get i) (hb : ∀ i, bad' i → bad i ∨ h.get i = none) : Srcs h' p es k cs bad' := by
 refine ⟨H.1, fun i hi => ?_⟩
 obtain ⟨vp, vb, vc, v1, hc, B, W, b1, b2⟩ := H.2 i hi
 have live : ∀ {v : AV} {l : List Int}, RV h v l → ∀ j ∈ v.ids, h.get j ≠ none := by
  intro v l R j hj
  obtain ⟨_, ⟨rfl, _⟩ | ⟨i, o, c, ws, wr', u', rfl, hg', _, _⟩⟩ := R
  ·simp [AV.ids] at hj
  ·simp only [AV.ids, List.mem_singleton] at hj
   subst hj; rw [hg']; simp
 exact ⟨vp, vb, vc, v1, hc, B.off fun j hj => hg j (b1 j hj) (live B j hj), W.off fun j hj => hg j (b2 j hj) (live W j hj), fun j hj x => (hb j x).elim (b1 j hj) (live B j hj), fun j hj x => (hb j x).elim (b2 j hj) (live W j hj)⟩
theorem Srcs.snoc {h : Heap} {p : PlanP} {es : List EmitP} {k : Nat} {cs : List AV} {bad : Nat → Prop} (H : Srcs h p es k cs bad) {vp vb vc : AV} (v1 : vp.one = true) (B : RV h vb (es.getD k eD).bits) (W : RV h vc (codeL p.d (es.getD k eD).prn)) (b1 : ∀ j ∈ vb.ids, ¬ bad j) (b2 : ∀ j ∈ vc.ids, ¬ bad j) :
  Srcs h p es (k + 1) (cs ++ (srcA p (es.getD k eD) vp vb vc).cells) bad := by
 have l17 : (srcA p (es.getD k eD) vp vb vc).cells.length = 17 := rfl
 refine ⟨by rw [List.length_append, H.1, l17]; omega, fun i hi => ?_⟩
 rcases Nat.lt_or_ge i k with q | q
 ·obtain ⟨vp', vb', vc', w1, hc, r⟩ := H.2 i q
  refine ⟨vp', vb', vc', w1, ?_, r⟩
  rw [← hc]
  have : i * 17 + 17 ≤ k * 17 := by omega
  unfold cut
  rw [List.drop_append_of_le_length (by rw [H.1]; omega), List.take_append_of_le_length (by rw [List.length_drop, H.1]; omega)]
 ·obtain rfl : i = k := by omega
  refine ⟨vp, vb, vc, v1, ?_, B, W, b1, b2⟩
  unfold cut
  rw [List.drop_append, List.drop_of_length_le (by rw [H.1]; omega), H.1, Nat.sub_self, List.drop_zero, List.nil_append, List.take_of_length_le (by rw [l17]; omega)]
theorem Srcs.freeze {h : Heap} {p : PlanP} {es : List EmitP} {k : Nat} {cs : List AV} {bad : Nat → Prop} (H : Srcs h p es k cs bad) : Srcs h.freeze p es k cs bad := by
 refine ⟨H.1, fun i hi => ?_⟩
 obtain ⟨vp, vb, vc, v1, hc, B, W, r⟩ := H.2 i hi
 exact ⟨vp, vb, vc, v1, hc, B.freeze, W.freeze, r⟩
section
variable {C : Ctx} {nt : Nat} {Q : Out → Gh → St → Prop} {g : Gh} {st : St}
theorem WM.seqP {a b : ACode} (h : ∀ ph, wp (C.at ph) nt none a (thenO (fun st' => WM C nt b Q g st') fun o st' => Q o g st') st) : WM C nt (.seq a b) Q g st := by
 refine WM.seq (WM.plain fun ph => jhQ ?_ (h ph))
 intro o st' hq
 cases o <;> exact hq
theorem jr5 {ph : Phase} {nid : Option Nat} {o : AOper} {K : St → Prop} (ho : cls o.op ≠ 2) (h : wpOp C nid o K st) : wpOp (C.at ph) nid o K st := by
 obtain ⟨dst, op, gd⟩ := o
 cases op <;> first | exact absurd rfl ho | exact h
theorem WMo.one {K : Gh → St → Prop} {o : AOper} {os : List AOper} (hg : o.guard = none) (ho : cls o.op ≠ 2) (h : wpOp C none o (fun st' => WMo C nt os K g st') st) : WMo C nt (o :: os) K g st :=
 WMo.cons hg fun ph => jr5 ho h
end
section
variable {C : Ctx}
def seqR : ACode → ACode
 | .seq _ b => b
 | c => c
set_option maxHeartbeats 4000000 in
set_option maxRecDepth 20000 in
theorem jkH (hC : Has C T231) {vp ve vn : AV} {p : PlanP} {es : List EmitP} {ns : List (Int × Int)} {m : Int} {h : Heap} (R : RI h vp p.prns) (h64 : p.ok64) (E : EmsI h ve es) (h65 : ∀ k, k < es.length → (es.getD k eD).ok64) (N : SI h vn ns) (hm : In64 m) {Q : Out → Gh → St → Prop}
  (hbad : ∀ t h', jbo p es ns m ≠ 0 → t 8 = .nilslice → t 9 = .int .i64 (jbo p es ns m) → HSub h h' → Q .ret .idle ⟨t, h', []⟩)
  (hgood : ∀ t h' cs, jbo p es ns m = 0 → (∀ k, k < es.length → EmOk p (es.getD k eD)) → t 2 = vn → t 7 = .ptr (h.size + 1) 0 → HSub h h' → h'.get (h.size + 1) = some (.cells [.int .i64 m] true 0) → SrcV h' (t 11) es.length cs → Srcs h' p es es.length cs (fun _ => False) → WM C 121 (seqR (seqR (seqR (seqR (seqR (seqR (seqR B231.code))))))) Q .idle ⟨t, h', []⟩) :
  WM C 121 B231.code Q .idle ⟨argT [plA p vp, ve, vn, .int .i64 m], h, []⟩ := by
 have v1 := R.one
 have w1 := E.one
 have n1 := N.one
 unfold In64 at hm
 have kP := fun ph h1 (q : HSub h h1) => jcc ((hC.at ph).sub (T' := T219) (by decide)) (v := plA p vp) ⟨vp, rfl, R.mono q⟩ h64
 have kM := fun ph (k : Nat) (hk : k < es.length) vb h1 (B : RI h1 vb (es.getD k eD).bits) (q : HSub h h1) => jgr ((hC.at ph).sub (T' := T238) (by decide)) (v := plA p vp) (w := emA (es.getD k eD) vb) (n := 0) ⟨vp, rfl, R.mono q⟩ ⟨vb, rfl, B⟩ h64 (h65 k hk) (by unfold In64; omega)
 have kE := fun ph (c : Nat) (e : EmitP) (vb : AV) h1 (w1 : vb.one = true) (hg : h1.get c = some (.cells [.int .i64 e.prn, .int .i64 e.dl, .int .i64 e.rt, .int .u32 e.st, .int .u32 e.ph, .int .i64 e.amp, .int .i64 e.ba, vb] true 0)) (es' : List EmitP) (v' : AV) (E' : EmsI h1 v' es') =>
  jgV ((hC.at ph).sub (T' := T252) (by decide)) (g := 253) (cs := [.ptr c 0]) (P := fun x => x.prn = e.prn) (h := h1) (fun x xb x1 => jfw ((hC.at ph).sub (T' := T253) (by decide)) x1 hg) E'
 unfold plA at *
 have q8 : loadB true 8 0 (some (.cells [.int .i64 p.d, .int .i64 p.o, .int .i64 p.pb, .int .i64 p.w, .int .i64 p.mn, .int .i64 p.mx, .int .i64 p.nz, vp] true 0)) = some (.agg [.int .i64 p.d, .int .i64 p.o, .int .i64 p.pb, .int .i64 p.w, .int .i64 p.mn, .int .i64 p.mx, .int .i64 p.nz, vp]) := rfl
 have El := E.len
 have Nl := N.len
 have Elt := E.lt
 have Nlt := N.lt
 have s1 := (HSub.push1 h (.cells [.int .i64 p.d, .int .i64 p.o, .int .i64 p.pb, .int .i64 p.w, .int .i64 p.mn, .int .i64 p.mx, .int .i64 p.nz, vp] true 0)).push (.cells [.int .i64 m] true 0)
 simp only [B231, zB.1]
 refine WM.seqP fun ph => ?_
 refine zs ?_
 refine WM.seqP fun ph => ?_
 refine zs1 @q8 ?_
 refine jaa.eq (kP ph _ s1) ?_
 have bad : ∀ x, jbo p es ns m = x → x ≠ 0 → ∀ (t : Nat → AV) (h' : Heap), t 8 = .nilslice → t 9 = .int .i64 x → HSub h h' → Q .ret .idle ⟨t, h', []⟩ := fun x hx h0 t h' a b c => hbad t h' (by rw [hx]; exact h0) a (by rw [hx]; exact b) c
 clear hbad
 refine zs ?_
 refine Br.by (fun c => ?_) (fun c => ?_)
 ·refine zs ?_
  exact bad _ (by unfold jbo; rw [if_pos c]) c _ _ rfl rfl s1
 have pz : p.err = 0 := Classical.not_not.1 c
 have hp : p.numsOk := by
  by_cases q : p.numsOk
  ·exact q
  ·exfalso; unfold PlanP.err at pz; rw [if_neg q] at pz; cases pz
 refine zs ?_
 refine WM.seqP fun ph => ?_
 refine zs1 @El ?_
 refine Br.by (fun c1 => ?_) (fun c1 => ?_)
 ·refine zs ?_
  exact bad _ (by unfold jbo; rw [if_neg c, if_pos (by omega)]) (by decide) _ _ rfl rfl s1
 have mb : jbo p es ns m = if emsE p es es.length ≠ 0 then emsE p es es.length else if m < 0 ∨ 1048576 < m then 2 else if m < ns.length then 4 else if (∃ x ∈ ns, ¬ inS p.nz x) then 2 else 0 := by
  unfold jbo; rw [if_neg c, if_neg (by omega)]
 refine zs ?_
 refine WM.seqP fun ph => ?_
 refine zs ?_
 refine WM.seqP fun ph => ?_
 refine zs1 @El ?_
 generalize hH2 : (h.push (.cells [.int .i64 p.d, .int .i64 p.o, .int .i64 p.pb, .int .i64 p.w, .int .i64 p.mn, .int .i64 p.mx, .int .i64 p.nz, vp] true 0)).push (.cells [.int .i64 m] true 0) = H2 at *
 have gP : H2.get h.size = some (.cells [.int .i64 p.d, .int .i64 p.o, .int .i64 p.pb, .int .i64 p.w, .int .i64 p.mn, .int .i64 p.mx, .int .i64 p.nz, vp] true 0) := by rw [← hH2]; exact ze
 have gM : H2.get (h.size + 1) = some (.cells [.int .i64 m] true 0) := by rw [← hH2]; exact ze
 have z2 : H2.size = h.size + 2 := by rw [← hH2]; simp
 refine jaA (fun j t h' => t 1 = ve ∧ t 2 = vn ∧ t 4 = .ptr h.size 0 ∧ t 7 = .ptr (h.size + 1) 0 ∧ t 31 = ve ∧ t 32 = .int .i64 (es.length : Nat) ∧ ∃ (k : Nat) (cs : List AV), t 33 = .int .i64 (k : Nat) ∧ k ≤ es.length ∧ j = es.length - k ∧ emsE p es k = 0 ∧ Grw H2 h' 17 (t 11) k cs ∧ Srcs h' p es k cs (fun j => j ∈ (t 11).ids)) (j0 := es.length)
  ⟨rfl, rfl, rfl, rfl, rfl, rfl, 0, [], rfl, by omega, rfl, rfl, Grw.nil _ _, rfl, fun i hi => absurd hi (Nat.not_lt_zero i)⟩ ?_
 rintro j t h1 ⟨e1, e2, e4, e7, e31, e32, k, cs, e33, hk, hj, ez, G, SS⟩
 have s21 := G.sub
 have sh1 := s1.trans s21
 have gP1 := (s21.get h.size (by omega)).trans gP
 have z1 := s21.size
 refine zs2 @e33 @e32 ?_
 refine Br.by (fun c2 => ?_) (fun c2 => ?_)
 ·have hk' : k < es.length := by omega
  obtain ⟨vb, ix, ld, B, _, _, _⟩ := E.at hk'
  have ld := ld h1 sh1
  have b1 := B.one
  have okE := h65 k hk'
  have kMk := fun ph h1 => kM ph k hk' vb h1
  have kEk := fun ph c h1 => kE ph c (es.getD k eD) vb h1 b1
  unfold emA at *
  generalize he : es.getD k eD = e at *
  refine zs7 @e4 @e31 @e33 @ix @ld @gP1 @q8 ?_
  have s' := sh1.push (.cells [.int .i64 e.prn, .int .i64 e.dl, .int .i64 e.rt, .int .u32 e.st, .int .u32 e.ph, .int .i64 e.amp, .int .i64 e.ba, vb] true 0)
  refine jaa.of (kMk ph _ (B.mono s') s') ?_
  rintro r h2 ⟨s2, x, rfl, g0, g1⟩
  have s12 := (HSub.push1 h1 (.cells [.int .i64 e.prn, .int .i64 e.dl, .int .i64 e.rt, .int .u32 e.st, .int .u32 e.ph, .int .i64 e.amp, .int .i64 e.ba, vb] true 0)).trans s2
  have z12 := s2.size
  simp only [Heap.size_push] at z12
  have gE2 : h2.get h1.size = some (.cells [.int .i64 e.prn, .int .i64 e.dl, .int .i64 e.rt, .int .u32 e.st, .int .u32 e.ph, .int .i64 e.amp, .int .i64 e.ba, vb] true 0) := (s2.get _ (by simp)).trans (by exact ze)
  have sH2 := sh1.trans s12
  have em0 : madeErr p e 0 = emitErr p e := by unfold madeErr; split <;> simp_all
  by_cases cm : madeErr p e 0 = 0
  ·obtain ⟨vp', vb', vc, q1, q2, rfl, R', B', W, fr⟩ := g1 cm
   have x1 := R'.one
   have x2 := B'.one
   have x3 := W.one
   have sb := fun (H : Heap) (i : Nat) => jbj (H := H) (i := i) (n := 17) (x := .int .i64 e.prn) (y := .int .i64 e.dl) (xs := [.int .i64 e.rt, .int .u32 e.st, .int .u32 e.ph, .int .i64 e.amp, .int .i64 e.ba, vb', .int .i64 p.d, .int .i64 p.o, .int .i64 p.pb, .int .i64 p.w, .int .i64 p.mn, .int .i64 p.mx, .int .i64 p.nz, vp', vc]) (vs := [.int .i64 0, .int .i64 0, .int .i64 0, .int .u32 0, .int .u32 0, .int .i64 0, .int .i64 0, .nilslice, .int .i64 0, .int .i64 0, .int .i64 0, .int .i64 0, .int .i64 0, .int .i64 0, .int .i64 0, .nilslice, .nilslice]) rfl rfl (by simp [jcC, x1, x2, x3])
   have cb := fun wr u => jgu (n := 17) (xs := [.int .i64 e.prn, .int .i64 e.dl, .int .i64 e.rt, .int .u32 e.st, .int .u32 e.ph, .int .i64 e.amp, .int .i64 e.ba, vb', .int .i64 p.d, .int .i64 p.o, .int .i64 p.pb, .int .i64 p.w, .int .i64 p.mn, .int .i64 p.mx, .int .i64 p.nz, vp', vc]) (wr := wr) (u := u) rfl
   obtain ⟨v2, hv2, E2⟩ := E.takeK (k := k) (kk := .i64) hk
   unfold srcA
   refine zs5 @cm @sb @e1 @e4 @hv2 ?_
   have gN : ∀ i, i < k → (es.take k).getD i eD = es.getD i eD := fun i hi => by simp [List.getD_eq_getElem?_getD, List.getElem?_take, hi]
   have lN : (es.take k).length = k := by rw [List.length_take]; omega
   have kE2 := fun (b : ABlk) => kEk ph h1.size (h2.push b) (by exact ze1 @gE2) (es.take k) v2 (E2.mono (sH2.push b))
   by_cases c5 : ∃ i, i < (es.take k).length ∧ ((es.take k).getD i eD).prn = e.prn
   ·refine jaa.eq2 (kE2 _) (by rw [decide_eq_true c5]) ?_
    obtain ⟨i, hi, hie⟩ := c5
    rw [lN] at hi
    rw [gN i hi] at hie
    have et := jqo hk' ez (by rw [he, ← em0]; exact cm) hi (by rw [he]; exact hie)
    refine zs ?_
    exact bad 8 (by rw [mb, if_pos (by rw [et]; decide), et]) (by decide) _ _ rfl rfl (zh sH2)
   ·refine jaa.eq2 (kE2 _) (by rw [decide_eq_false c5]) ?_
    have en := jjp ez (by rw [he, ← em0]; exact cm) (fun i hi q => c5 ⟨i, by rw [lN]; exact hi, by rw [gN i hi, q, he]⟩)
    have an := fun (H : Heap) (hs : HSub h1 H) (bts : Nat) (hb : (k + 1) * bts ≤ 1099511627776) => Grw.app (m := 1) (bytes := bts) (news := [.int .i64 e.prn, .int .i64 e.dl, .int .i64 e.rt, .int .u32 e.st, .int .u32 e.ph, .int .i64 e.amp, .int .i64 e.ba, vb', .int .i64 p.d, .int .i64 p.o, .int .i64 p.pb, .int .i64 p.w, .int .i64 p.mn, .int .i64 p.mx, .int .i64 p.nz, vp', vc]) G hs (by decide) hb (by simp [jcC, x1, x2, x3])
    refine zs7 @jby @cb @an @e1 @e31 @e32 @e33 ?_
    have gi := jr4 G
    have hsN := (s12.push (.cells [.int .i64 e.prn, .int .i64 e.dl, .int .i64 e.rt, .int .u32 e.st, .int .u32 e.ph, .int .i64 e.amp, .int .i64 e.ba, vb', .int .i64 p.d, .int .i64 p.o, .int .i64 p.pb, .int .i64 p.w, .int .i64 p.mn, .int .i64 p.mx, .int .i64 p.nz, vp', vc] true 0)).push (.cells [.int .i64 e.prn, .int .i64 e.dl, .int .i64 e.rt, .int .u32 e.st, .int .u32 e.ph, .int .i64 e.amp, .int .i64 e.ba, vb', .int .i64 p.d, .int .i64 p.o, .int .i64 p.pb, .int .i64 p.w, .int .i64 p.mn, .int .i64 p.mx, .int .i64 p.nz, vp', vc] true 0)
    have GN := Grw.snoc (m := 1) (news := [.int .i64 e.prn, .int .i64 e.dl, .int .i64 e.rt, .int .u32 e.st, .int .u32 e.ph, .int .i64 e.amp, .int .i64 e.ba, vb', .int .i64 p.d, .int .i64 p.o, .int .i64 p.pb, .int .i64 p.w, .int .i64 p.mn, .int .i64 p.mx, .int .i64 p.nz, vp', vc]) G hsN rfl (by omega)
    have hN2 := (HSub.push1 h2 (.cells [.int .i64 e.prn, .int .i64 e.dl, .int .i64 e.rt, .int .u32 e.st, .int .u32 e.ph, .int .i64 e.amp, .int .i64 e.ba, vb', .int .i64 p.d, .int .i64 p.o, .int .i64 p.pb, .int .i64 p.w, .int .i64 p.mn, .int .i64 p.mx, .int .i64 p.nz, vp', vc] true 0)).push (.cells [.int .i64 e.prn, .int .i64 e.dl, .int .i64 e.rt, .int .u32 e.st, .int .u32 e.ph, .int .i64 e.amp, .int .i64 e.ba, vb', .int .i64 p.d, .int .i64 p.o, .int .i64 p.pb, .int .i64 p.w, .int .i64 p.mn, .int .i64 p.mx, .int .i64 p.nz, vp', vc] true 0)
    have hvb : vb' = vb := by injection q2 with q2; simp only [List.cons.injEq, and_true, true_and] at q2; exact q2.symm
    refine ⟨_, ⟨e2, e4, e7, k + 1, _, by simp, by omega, rfl, en, GN, ?_⟩, by omega⟩
    have hns : ((h2.push (.cells [.int .i64 e.prn, .int .i64 e.dl, .int .i64 e.rt, .int .u32 e.st, .int .u32 e.ph, .int .i64 e.amp, .int .i64 e.ba, vb', .int .i64 p.d, .int .i64 p.o, .int .i64 p.pb, .int .i64 p.w, .int .i64 p.mn, .int .i64 p.mx, .int .i64 p.nz, vp', vc] true 0)).push (.cells [.int .i64 e.prn, .int .i64 e.dl, .int .i64 e.rt, .int .u32 e.st, .int .u32 e.ph, .int .i64 e.amp, .int .i64 e.ba, vb', .int .i64 p.d, .int .i64 p.o, .int .i64 p.pb, .int .i64 p.w, .int .i64 p.mn, .int .i64 p.mx, .int .i64 p.nz, vp', vc] true 0)).size = h2.size + 2 := by simp
    generalize (h2.push (.cells [.int .i64 e.prn, .int .i64 e.dl, .int .i64 e.rt, .int .u32 e.st, .int .u32 e.ph, .int .i64 e.amp, .int .i64 e.ba, vb', .int .i64 p.d, .int .i64 p.o, .int .i64 p.pb, .int .i64 p.w, .int .i64 p.mn, .int .i64 p.mx, .int .i64 p.nz, vp', vc] true 0)).push (.cells [.int .i64 e.prn, .int .i64 e.dl, .int .i64 e.rt, .int .u32 e.st, .int .u32 e.ph, .int .i64 e.amp, .int .i64 e.ba, vb', .int .i64 p.d, .int .i64 p.o, .int .i64 p.pb, .int .i64 p.w, .int .i64 p.mn, .int .i64 p.mx, .int .i64 p.nz, vp', vc] true 0) = HN at *
    have SN := SS.turn (h' := snocH HN none (t 11) 17 (cs ++ [.int .i64 e.prn, .int .i64 e.dl, .int .i64 e.rt, .int .u32 e.st, .int .u32 e.ph, .int .i64 e.amp, .int .i64 e.ba, vb', .int .i64 p.d, .int .i64 p.o, .int .i64 p.pb, .int .i64 p.w, .int .i64 p.mn, .int .i64 p.mx, .int .i64 p.nz, vp', vc])) (bad' := fun j => j ∈ (AV.slice HN.size 0 (k + 1) (.unk 0)).ids) (fun i hb hn => by
     have hlt : i < h1.size := Nat.lt_of_not_le fun q => hn (h1.wf i q)
     have := hsN.size
     rw [jll hb (by omega)]; exact hsN.get i hlt) (fun i hi => .inr (h1.wf i (by simp only [AV.ids, List.mem_singleton] at hi; have := hsN.size; omega)))
    have hsq := GN.sub
    have blt := B.lt_ids
    have wlt := W.lt_ids
    have hz := s1.size
    have hn2 := hN2.size
    have fin := Srcs.snoc SN (vp := vp') (vb := vb') (vc := vc) x1 (by rw [he, hvb]; rw [hvb] at hsq; exact (B.mono (s1.trans hsq)).rv) (by
     rw [he]
     refine RV.off W.rv fun j hj => ?_
     have q1 := fr j hj
     have q3 := wlt j hj
     simp only [Heap.size_push] at q1
     rw [jll (fun q => by have := (gi j q).2; omega) (by omega)]
     exact hN2.get j q3) (fun j hj x => by
      rw [hvb] at hj
      have := blt j hj
      simp only [AV.ids, List.mem_singleton] at x
      omega) (fun j hj x => by
      have := wlt j hj
      simp only [AV.ids, List.mem_singleton] at x
      omega)
    rw [he] at fin
    rw [hns] at fin
    exact fin
  ·have xz := g0 cm
   subst xz
   have eb : emsE p es es.length = emitErr p (es.getD k eD) := jqn hk' ez (by rw [he, ← em0]; exact cm)
   rw [he, ← em0] at eb
   unfold zsrc
   refine zs1 @cm ?_
   exact bad _ (by rw [mb, if_pos (by rw [eb]; exact cm), eb]) cm _ _ rfl rfl (zh (sh1.trans s12))
 ·obtain rfl : k = es.length := by omega
  have gM1 := (s21.get (h.size + 1) (by omega)).trans gM
  have eok := fun k hk => jel (joG ez k hk)
  have mb2 : jbo p es ns m = if m < 0 ∨ 1048576 < m then 2 else if m < ns.length then 4 else if (∃ x ∈ ns, ¬ inS p.nz x) then 2 else 0 := by
   rw [mb, if_neg (by rw [ez]; decide)]
  have nz := hp.2.2.2.2.2.2
  have kG := fun ph => jea ((hC.at ph).sub (T' := T255) (by decide)) (g := 254) (cs := [.ptr h.size 0]) (P := fun q => inS p.nz q) (h := h1) (fun q => jfy ((hC.at ph).sub (T' := T254) (by decide)) (p := p) (vp := vp) ⟨by omega, by omega⟩ v1 gP1) (N.mono sh1)
  refine zs ?_
  refine WM.seqP fun ph => ?_
  refine zs1 @e4 ?_
  refine WM.seqP fun ph => ?_
  refine zs2 @e7 @gM1 ?_
  refine Br.by (fun c3 => ?_) (fun c3 => ?_)
  ·refine zs ?_
   exact bad 2 (by rw [mb2, if_pos (.inl c3)]) (by decide) _ _ rfl rfl sh1
  ·refine zs2 @e7 @gM1 ?_
   refine Br.by (fun c4 => ?_) (fun c4 => ?_)
   ·refine zs ?_
    exact bad 2 (by rw [mb2, if_pos (.inr c4)]) (by decide) _ _ rfl rfl sh1
   ·refine zs4 @e2 @e7 @Nl @gM1 ?_
    refine Br.by (fun c5 => ?_) (fun c5 => ?_)
    ·refine zs ?_
     exact bad 4 (by rw [mb2, if_neg (by omega), if_pos (by omega)]) (by decide) _ _ rfl rfl sh1
    ·by_cases c6 : ∀ x ∈ ns, inS p.nz x
     ·refine zs2 @e2 @e7 ?_
      refine jaa.eq2 (kG ph) (by rw [decide_eq_true c6]) ?_
      refine zs ?_
      refine hgood _ _ cs (by rw [mb2, if_neg (by omega), if_neg (by omega), if_neg (fun ⟨x, hx, q⟩ => q (c6 x hx))]) eok e2 e7 sh1 gM1 ?_ (SS.turn (fun _ _ _ => rfl) (fun _ x => x.elim))
      show SrcV h1 (t 11) es.length cs
      obtain ⟨_, gl, _, ⟨g1, g2⟩ | ⟨i, ex, _, g1, g2⟩⟩ := G
      ·exact ⟨gl, .inl ⟨g1, g2⟩⟩
      ·exact ⟨gl, .inr ⟨i, ex, true, g1, g2⟩⟩
     ·refine zs2 @e2 @e7 ?_
      refine jaa.eq2 (kG ph) (by rw [decide_eq_false c6]) ?_
      refine zs ?_
      exact bad 2 (by rw [mb2, if_neg (by omega), if_neg (by omega), if_pos (by
       rcases Classical.em (∃ x ∈ ns, ¬ inS p.nz x) with q | q
       ·exact q
       ·exact absurd (fun x hx => Classical.not_not.1 fun y => q ⟨x, hx, y⟩) c6)]) (by decide) _ _ rfl rfl sh1
end
end Go.Ae
namespace Go.Ae
theorem jkI {p : PlanP} {M ic b dst : Nat} {rem : List EmitP} {Hs H h Hc : Heap} {T : Nat → AV} {K : Gh → St → Prop} {vs : List AV} (hic : h.size ≤ ic) (h1 : HSub h Hc) (h2 : HSub Hc Hs) (hb : Hs.size ≤ b) (hbz : b < H.size) (hg : H.get b = some (.cells vs true 0))
  (hK : ∀ g' H' A e B, rem = A ++ e :: B → H'.get H.size = some (.cells (smps (wv p e M M)) false 0) → H'.get b = some (.cells vs true 0) → H.size < H'.size → (A ++ B = [] → g' = .idle ∧ HSub h H') → (A ++ B ≠ [] → g' = .busy ic ((A ++ B).map fun e => waveP p e M) Hs ∧ HSub H H') →
   K g' ⟨upd T dst (.slice H.size 0 M (.known M)), H', []⟩) : jlj (.busy ic (rem.map fun e => waveP p e M) Hs) (.chan ic) (some dst) K ⟨T, H, []⟩ := by
 refine ⟨rfl, fun A q B hAB => ?_⟩
 obtain ⟨A1, e, B1, hr, rfl, rfl, rfl⟩ := jjt hAB
 have z1 := h1.size
 have z2 := h2.size
 constructor
 ·intro hne
  refine hK (.busy ic (A1.map (fun e => waveP p e M) ++ B1.map fun e => waveP p e M) Hs) _ A1 e B1 hr ?_ ?_ ?_ ?_ ?_
  ·exact jaz rfl
  ·show (H.push _).get b = _
   rw [Heap.get_push, if_neg (by omega)]; exact hg
  ·show H.size < (H.push _).size
   simp
  ·intro h0
   exfalso
   obtain ⟨a, b⟩ := List.append_eq_nil_iff.1 h0
   subst a; subst b; exact hne rfl
  ·intro _
   exact ⟨by rw [List.map_append], HSub.push1 H _⟩
 ·intro h0
  have hAB0 : A1 ++ B1 = [] := by
   obtain ⟨a, b⟩ := List.append_eq_nil_iff.1 h0
   rw [List.map_eq_nil_iff.1 a, List.map_eq_nil_iff.1 b]; rfl
  have gT : ∀ i, i < Hs.size → i ≠ ic → (Hs.thaw ic H).get i = Hs.get i := fun i hi hne => by
   show (if i < H.size then (if i < Hs.size then (if i = ic then some .dead else Hs.get i) else _) else none) = _
   rw [if_pos (by omega), if_pos hi, if_neg hne]
  refine hK .idle _ A1 e B1 hr ?_ ?_ ?_ ?_ ?_
  ·show ((Hs.thaw ic H).push _).get H.size = _
   rw [Heap.get_push, if_pos (by simp)]
  ·show ((Hs.thaw ic H).push _).get b = _
   rw [Heap.get_push, if_neg (by simp; omega)]
   show (if b < H.size then (if b < Hs.size then _ else (H.get b).map fun x => if x.wr then x else .dead) else none) = _
   rw [if_pos hbz, if_neg (by omega), hg]; rfl
  ·show H.size < ((Hs.thaw ic H).push _).size
   simp
  ·intro _
   refine ⟨rfl, ⟨by show h.size ≤ ((Hs.thaw ic H).push _).size; simp; omega, fun i hi => ?_⟩⟩
   show ((Hs.thaw ic H).push _).get i = _
   rw [Heap.get_push, if_neg (by simp; omega), gT i (by omega) (by omega), h2.get i (by omega), h1.get i hi]
  ·intro hne; exact absurd hAB0 hne
theorem jfO {p : PlanP} {D X : List EmitP} {ns : List (Int × Int)} {n : Nat} : ∀ k, k ≤ D.length → scnV p (D ++ X) ns k n = scnV p D ns k n
 | 0, _ => rfl
 | k + 1, hk => by
  have e : (D ++ X).getD k eD = D.getD k eD := by
   rw [List.getD_eq_getElem?_getD, List.getElem?_append_left (by omega), ← List.getD_eq_getElem?_getD]
  show addP (scnV p (D ++ X) ns k n) (atV p ((D ++ X).getD k eD) (n : Nat)) = addP (scnV p D ns k n) (atV p (D.getD k eD) (n : Nat))
  rw [jfO k (by omega), e]
theorem jju {p : PlanP} {D : List EmitP} {e : EmitP} {ns : List (Int × Int)} {n : Nat} : scnV p (D ++ [e]) ns (D.length + 1) n = addP (scnV p D ns D.length n) (atV p e (n : Nat)) := by
 show addP (scnV p (D ++ [e]) ns D.length n) (atV p ((D ++ [e]).getD D.length eD) (n : Nat)) = _
 rw [jfO _ (Nat.le_refl _)]
 have : (D ++ [e]).getD D.length eD = e := by simp [List.getD_eq_getElem?_getD]
 rw [this]
theorem jjv {p : PlanP} {ns : List (Int × Int)} {n : Nat} (l : List EmitP) : scnV p l ns l.length n = l.foldl (fun a e => addP a (atV p e (n : Nat))) (ns.getD n (0, 0)) := by
 have key : ∀ l : List EmitP, scnV p l.reverse ns l.reverse.length n = l.reverse.foldl (fun a e => addP a (atV p e (n : Nat))) (ns.getD n (0, 0)) := by
  intro l
  induction l with
  | nil => rfl
  | cons x l ih =>
   rw [List.reverse_cons, List.length_append, List.foldl_append]
   show scnV p (l.reverse ++ [x]) ns (l.reverse.length + 1) n = _
   rw [jju, ih]
   rfl
 have := key l.reverse
 rwa [List.reverse_reverse] at this
theorem jr6 (a b c : Int × Int) : addP (addP a b) c = addP (addP a c) b := by
 unfold addP
 refine Prod.ext ?_ ?_ <;> dsimp only <;> omega
theorem joR {p : PlanP} {ns : List (Int × Int)} {n : Nat} {D es : List EmitP} (h : D.Perm es) : scnV p D ns D.length n = scnV p es ns es.length n := by
 rw [jjv, jjv]
 generalize ns.getD n (0, 0) = z
 induction h generalizing z with
 | nil => rfl
 | cons x _ ih => exact ih _
 | swap x y l =>
  show l.foldl _ (addP (addP z (atV p y (n : Nat))) (atV p x (n : Nat))) = l.foldl _ (addP (addP z (atV p x (n : Nat))) (atV p y (n : Nat)))
  rw [jr6]
 | trans _ _ ih1 ih2 => exact (ih1 z).trans (ih2 z)
theorem joS {p : PlanP} {ns : List (Int × Int)} {M : Nat} {D es : List EmitP} (h : D.Perm es) : scnL p D ns D.length M = scnL p es ns es.length M :=
 List.map_congr_left fun n _ => joR h
theorem jqw {p : PlanP} {ns : List (Int × Int)} {M : Nat} {D X : List EmitP} : scnL p (D ++ X) ns D.length M = scnL p D ns D.length M :=
 List.map_congr_left fun n _ => jfO _ (Nat.le_refl _)
theorem jgz {a b : AV} : ∀ (l : List AV) (i : Nat), i + 2 ≤ l.length → (l.set i a).set (i + 1) b = splice l i [a, b]
 | [], i, h => by simp at h
 | x :: l, 0, h => by
  cases l with
  | nil => simp at h
  | cons y l => simp [splice]
 | x :: l, i + 1, h => by
  have := jgz (a := a) (b := b) l i (by simpa using h)
  simp only [List.set_cons_succ, this, splice, List.take_succ_cons, List.length_cons, List.cons_append]
  rw [show i + 1 + ([] : List AV).length.succ.succ = (i + ([] : List AV).length.succ.succ) + 1 by omega, List.drop_succ_cons]
theorem SrcV.freeze {h : Heap} {v : AV} {k : Nat} {cs : List AV} (H : SrcV h v k cs) : SrcV h.freeze v k cs := by
 obtain ⟨a, ⟨rfl, h1⟩ | ⟨i, ex, wr, rfl, hg⟩⟩ := H
 ·exact ⟨a, .inl ⟨rfl, h1⟩⟩
 ·exact ⟨a, .inr ⟨i, ex, false, rfl, by rw [jb7, hg]; rfl⟩⟩
theorem SrcV.mono {h h' : Heap} {v : AV} {k : Nat} {cs : List AV} (H : SrcV h v k cs) (hs : HSub h h') : SrcV h' v k cs := by
 obtain ⟨a, ⟨rfl, h1⟩ | ⟨i, ex, wr, rfl, hg⟩⟩ := H
 ·exact ⟨a, .inl ⟨rfl, h1⟩⟩
 ·exact ⟨a, .inr ⟨i, ex, wr, rfl, (hs.get i (Heap.lt_of_get hg)).trans hg⟩⟩
theorem Srcs.mono {h h' : Heap} {p : PlanP} {es : List EmitP} {k : Nat} {cs : List AV} (H : Srcs h p es k cs (fun _ => False)) (hs : HSub h h') : Srcs h' p es k cs (fun _ => False) :=
 H.turn (fun i _ hn => hs.get i (Nat.lt_of_not_le fun q => hn (h.wf i q))) (fun _ x => x.elim)
theorem SrcV.len {h : Heap} {v : AV} {k : Nat} {cs : List AV} (H : SrcV h v k cs) : lenA v = some (.int .i64 (k : Nat)) := by
 obtain ⟨a, ⟨rfl, rfl⟩ | ⟨i, ex, wr, rfl, hg⟩⟩ := H <;> rfl
theorem SrcV.at {h : Heap} {v : AV} {k : Nat} {cs : List AV} (H : SrcV h v k cs) {i : Nat} (hi : i < k) : idxA 17 v (.int .i64 (i : Nat)) = some (elA 17 v i) ∧ Ae.loadA h true 17 (elA 17 v i) = some (.agg (cut cs (i * 17) 17)) := by
 obtain ⟨a, ⟨rfl, rfl⟩ | ⟨j, ex, wr, rfl, hg⟩⟩ := H
 ·omega
 ·have h1 : i * 17 + 17 ≤ k * 17 := by omega
  refine ⟨by simp only [idxA]; rw [if_pos ⟨by omega, by omega⟩]; simp [elA], ?_⟩
  simp only [elA, Ae.loadA, hg, partA, if_true]
  rw [if_pos (by rw [List.length_append]; omega)]
  congr 2
  unfold cut
  rw [Nat.zero_add, List.drop_append_of_le_length (by omega), List.take_append_of_le_length (by rw [List.length_drop]; omega)]
theorem jgW {h : Heap} {sz : Nat} {v : AV} : jan h.freeze sz v = jan h sz v := by
 cases v with
 | slice i o n c =>
  simp only [jan, jb7]
  cases hg : h.get i with
  | none => rfl
  | some b => cases b <;> rfl
 | _ => rfl
theorem jfA {h h' : Heap} {sz : Nat} {v : AV} {x : Nat × List AV} (H : jan h sz v = some x) (hs : HSub h h') : jan h' sz v = some x := by
 rw [← H]
 cases v with
 | slice i o n c =>
  simp only [jan] at H ⊢
  cases hg : h.get i with
  | none => rw [hg] at H; cases H
  | some b => rw [hs.get i (Heap.lt_of_get hg), hg]
 | _ => rfl
theorem jci {h : Heap} {i : Nat} {vs : List AV} {wr : Bool} {u : Nat} (hg : h.get i = some (.cells vs wr u)) : h.freeze.get i = some (.cells vs false u) := by rw [jb7, hg]; rfl
section
variable {C : Ctx}
set_option maxHeartbeats 4000000 in
set_option maxRecDepth 20000 in
theorem jmB (hC : Has C T231) {vn : AV} {p : PlanP} {es : List EmitP} {ns : List (Int × Int)} {M : Nat} {h h1 : Heap} {t : Nat → AV} {cs : List AV} {Q : Out → Gh → St → Prop} (h65 : ∀ k, k < es.length → (es.getD k eD).ok64) (hn8 : es.length ≤ 8) (hM : M ≤ 1048576) (eok : ∀ k, k < es.length → EmOk p (es.getD k eD)) (hnl : ns.length ≤ M) (hp : p.numsOk) (nin : ∀ x ∈ ns, inS p.nz x)
  (hfin : ∀ (t : Nat → AV) (h' : Heap) (b : Nat), t 8 = .slice b 0 M (.known M) → t 9 = .int .i64 0 → HSub h h' → h.size ≤ b → h'.get b = some (.cells (smps (scnL p es ns es.length M)) true 0) → Q .ret .idle ⟨t, h', []⟩)
  (e2 : t 2 = vn) (e7 : t 7 = .ptr (h.size + 1) 0) (hs : HSub h h1) (gM : h1.get (h.size + 1) = some (.cells [.int .i64 (M : Nat)] true 0)) (hc : jan h1 2 vn = some (ns.length, smps ns)) (V : SrcV h1 (t 11) es.length cs) (S : Srcs h1 p es es.length cs (fun _ => False)) :
  WM C 121 (seqR (seqR (seqR (seqR (seqR (seqR (seqR B231.code))))))) Q .idle ⟨t, h1, []⟩ := by
 simp only [B231, seqR, zB.1]
 refine WM.seq (WM.region ?_)
 refine WMo.one rfl (by decide) ?_
 show WMo C 121 _ _ .idle ⟨upd t 72 (.chan h1.size), h1.push .chan, []⟩
 refine WMo.one rfl (by decide) ?_
 show WMo C 121 _ _ .idle ⟨upd (upd t 72 (.chan h1.size)) 17 (.ptr (h1.size + 1) 0), (h1.push .chan).push (.cells [.nilchan] true 0), []⟩
 refine WMo.one rfl (by decide) ?_
 have st1 : jcH ((h1.push .chan).push (.cells [.nilchan] true 0)) 1 (.ptr (h1.size + 1) 0) (.chan h1.size) = some ((h1.push .chan).push (.cells [.chan h1.size] true 0)) := by
  have g : ((h1.push .chan).push (.cells [.nilchan] true 0)).get (h1.size + 1) = some (.cells [.nilchan] true 0) := jaz rfl
  simp only [jcH, g]
  rw [if_pos ⟨rfl, by simp, rfl⟩]
  simp only [AV.cells, splice, List.set_cons_zero]
  rw [jhX (h := h1.push .chan) (i := h1.size + 1) rfl]
 show (match (jcH ((h1.push .chan).push (.cells [.nilchan] true 0)) 1 (.ptr (h1.size + 1) 0) (.chan h1.size)).map fun h' => (AV.undef, h') with | some (v, h') => WMo C 121 _ _ .idle (St.put ⟨upd (upd t 72 (.chan h1.size)) 17 (.ptr (h1.size + 1) 0), h', []⟩ none v) | none => False)
 rw [st1]
 refine WMo.nil ?_
 show WM C 121 _ Q .idle ⟨upd (upd t 72 (.chan h1.size)) 17 (.ptr (h1.size + 1) 0), (h1.push .chan).push (.cells [.chan h1.size] true 0), []⟩
 have sHc := (HSub.push1 h1 .chan).push (.cells [.chan h1.size] true 0)
 have gic : ((h1.push .chan).push (.cells [.chan h1.size] true 0)).get h1.size = some .chan := by rw [Heap.get_push, if_neg (by simp), Heap.get_push, if_pos rfl]
 have gcw : ((h1.push .chan).push (.cells [.chan h1.size] true 0)).get (h1.size + 1) = some (.cells [.chan h1.size] true 0) := jaz rfl
 have zc : ((h1.push .chan).push (.cells [.chan h1.size] true 0)).size = h1.size + 2 := by simp
 have Vc := V.mono sHc
 have Sc := S.mono sHc
 have gMc := (sHc.get _ (Heap.lt_of_get gM)).trans gM
 have cc : jan ((h1.push .chan).push (.cells [.chan h1.size] true 0)) 2 vn = some (ns.length, smps ns) := by
  rw [← hc]
  cases vn with
  | slice i o n c =>
   simp only [jan] at hc ⊢
   cases hg : h1.get i with
   | none => rw [hg] at hc; cases hc
   | some b => rw [sHc.get i (Heap.lt_of_get hg), hg]
  | _ => rfl
 generalize hHc : (h1.push .chan).push (.cells [.chan h1.size] true 0) = Hc at *
 have Vl := V.len
 generalize hv0 : t 11 = v0 at *
 refine WM.seq ?_
 refine WM.seqP fun ph => ?_
 refine zs2 @hv0 @Vl ?_
 refine WM.block ?_
 refine WM.loop (fun j g st => ∃ k : Nat, k ≤ es.length ∧ j = es.length - k ∧ st.m = [] ∧ st.t 2 = vn ∧ st.t 7 = .ptr (h.size + 1) 0 ∧ st.t 11 = v0 ∧ st.t 17 = .ptr (h1.size + 1) 0 ∧ st.t 73 = v0 ∧ st.t 74 = .int .i64 (es.length : Nat) ∧ st.t 75 = .int .i64 (k : Nat) ∧
  SrcV st.h v0 es.length cs ∧ Srcs st.h p es es.length cs (fun _ => False) ∧ (∃ wr u, st.h.get (h.size + 1) = some (.cells [.int .i64 (M : Nat)] wr u)) ∧ (∃ wr u, st.h.get (h1.size + 1) = some (.cells [.chan h1.size] wr u)) ∧ jan st.h 2 vn = some (ns.length, smps ns) ∧ Hc.size ≤ st.h.size ∧ st.h.ok h1.size ∧
  (k = 0 → g = .idle ∧ st.h = Hc) ∧ (0 < k → ∃ Hs, g = .busy h1.size ((List.range k).map fun i => waveP p (es.getD i eD) M) Hs ∧ HSub Hc Hs ∧ Hs.size ≤ st.h.size)) (j0 := es.length)
  ⟨0, by omega, rfl, rfl, e2, e7, hv0, rfl, rfl, rfl, rfl, Vc, Sc, ⟨_, _, gMc⟩, ⟨_, _, gcw⟩, cc, Nat.le_refl _, by simp [Heap.ok, gic], fun _ => ⟨rfl, rfl⟩, fun q => absurd q (Nat.lt_irrefl 0)⟩ ?_
 ·rintro j g ⟨u, H, mk⟩ ⟨k, hk, hj, hm, f2, f7, f11, f17, f73, f74, f75, VH, SH, ⟨wm, um, gm⟩, ⟨wc, uc, gc⟩, cH, zH, okH, k0, k1⟩
  dsimp only at hm f2 f7 f11 f17 f73 f74 f75 VH SH gm gc cH zH okH k0 k1
  subst hm
  refine WM.seqP fun ph => ?_
  refine zs2 @f74 @f75 ?_
  refine WM.seqP fun ph => ?_
  refine zs ?_
  refine Br.by (fun c2 => ?_) (fun c2 => ?_)
  ·have hk' : k < es.length := by omega
   obtain ⟨ix, ld⟩ := VH.at hk'
   obtain ⟨vp', vb', vc', x1, hcut, B, W, _⟩ := SH.2 k hk'
   rw [hcut] at ld
   have x2 := B.one
   have x3 := W.one
   generalize he : es.getD k eD = e at *
   have sb := fun (H : Heap) (i : Nat) => jbj (H := H) (i := i) (n := 17) (x := .int .i64 e.prn) (y := .int .i64 e.dl) (xs := [.int .i64 e.rt, .int .u32 e.st, .int .u32 e.ph, .int .i64 e.amp, .int .i64 e.ba, vb', .int .i64 p.d, .int .i64 p.o, .int .i64 p.pb, .int .i64 p.w, .int .i64 p.mn, .int .i64 p.mx, .int .i64 p.nz, vp', vc']) (vs := [.int .i64 0, .int .i64 0, .int .i64 0, .int .u32 0, .int .u32 0, .int .i64 0, .int .i64 0, .nilslice, .int .i64 0, .int .i64 0, .int .i64 0, .int .i64 0, .int .i64 0, .int .i64 0, .int .i64 0, .nilslice, .nilslice]) rfl rfl (by simp [jcC, x1, x2, x3])
   have ecs : (srcA p e vp' vb' vc').cells = [.int .i64 e.prn, .int .i64 e.dl, .int .i64 e.rt, .int .u32 e.st, .int .u32 e.ph, .int .i64 e.amp, .int .i64 e.ba, vb', .int .i64 p.d, .int .i64 p.o, .int .i64 p.pb, .int .i64 p.w, .int .i64 p.mn, .int .i64 p.mx, .int .i64 p.nz, vp', vc'] := rfl
   rw [ecs] at ld
   refine zs ?_
   refine WM.seq (WM.block ?_)
   refine WM.seqP fun ph => ?_
   refine zs5 @f73 @f75 @ix @ld @sb ?_
   refine WM.region (WMo.one rfl (by decide) ?_)
   refine zs2 @f17 @f7 ?_
   refine WMo.go ?_
   have hs19 := HSub.push1 H (.cells [.int .i64 e.prn, .int .i64 e.dl, .int .i64 e.rt, .int .u32 e.st, .int .u32 e.ph, .int .i64 e.amp, .int .i64 e.ba, vb', .int .i64 p.d, .int .i64 p.o, .int .i64 p.pb, .int .i64 p.w, .int .i64 p.mn, .int .i64 p.mx, .int .i64 p.nz, vp', vc'] true 0)
   have g19 : (H.push (.cells [.int .i64 e.prn, .int .i64 e.dl, .int .i64 e.rt, .int .u32 e.st, .int .u32 e.ph, .int .i64 e.amp, .int .i64 e.ba, vb', .int .i64 p.d, .int .i64 p.o, .int .i64 p.pb, .int .i64 p.w, .int .i64 p.mn, .int .i64 p.mx, .int .i64 p.nz, vp', vc'] true 0)).get H.size = some (.cells (srcA p e vp' vb' vc').cells true 0) := jaz rfl
   have z19 : (H.push (.cells [.int .i64 e.prn, .int .i64 e.dl, .int .i64 e.rt, .int .u32 e.st, .int .u32 e.ph, .int .i64 e.amp, .int .i64 e.ba, vb', .int .i64 p.d, .int .i64 p.o, .int .i64 p.pb, .int .i64 p.w, .int .i64 p.mn, .int .i64 p.mx, .int .i64 p.nz, vp', vc'] true 0)).size = H.size + 1 := by simp
   generalize hH9 : H.push (.cells [.int .i64 e.prn, .int .i64 e.dl, .int .i64 e.rt, .int .u32 e.st, .int .u32 e.ph, .int .i64 e.amp, .int .i64 e.ba, vb', .int .i64 p.d, .int .i64 p.o, .int .i64 p.pb, .int .i64 p.w, .int .i64 p.mn, .int .i64 p.mx, .int .i64 p.nz, vp', vc'] true 0) = H9 at *
   have gm9 := (hs19.get _ (Heap.lt_of_get gm)).trans gm
   have gc9 := (hs19.get _ (Heap.lt_of_get gc)).trans gc
   have ok9 : H9.ok h1.size := by
    have hlt := Heap.lt_of_ok okH
    simp only [Heap.ok] at okH ⊢
    rw [hs19.get _ hlt]; exact okH
   show wpGo C g (.func 256 [] [.ptr (h1.size + 1) 0, .ptr H.size 0, .ptr (h.size + 1) 0]) [] none _ _
   refine ⟨h1.size, waveP p e M, ?_, waveP_ok p e M, ?_, ?_⟩
   ·rcases Nat.eq_zero_or_pos k with q | q
    ·obtain ⟨rfl, hHH⟩ := k0 q
     have gi : H9.get h1.size = Hc.get h1.size := by rw [hs19.get h1.size (Heap.lt_of_ok okH), hHH]
     exact gi.trans gic
    ·obtain ⟨Hs, rfl, _⟩ := k1 q
     rfl
   ·exact jr3 (zu hC T256) (by rw [← he]; exact eok k hk') (by rw [← he]; exact h65 k hk') (B.mono hs19).freeze (W.mono hs19).freeze x1 hM (jci gc9) (jci g19) (jci gm9) ((jgw _ _).2 ok9)
   ·refine WMo.nil ?_
    refine WM.plain fun ph => ?_
    show wp _ _ _ _ _ ⟨_, H9.freeze, []⟩
    refine zs1 @f75 ?_
    have zz : (H9.freeze).size = H9.size := rfl
    refine ⟨_, by omega, k + 1, by omega, rfl, f2, f7, f11, f17, f73, f74, by simp, (VH.mono hs19).freeze, (SH.mono hs19).freeze, ⟨_, _, jci gm9⟩, ⟨_, _, jci gc9⟩, by rw [jgW]; exact jfA cH hs19, by omega, (jgw _ _).2 ok9, fun q => absurd q (by omega), fun _ => ?_⟩
    have he' : es[k]?.getD eD = e := by rw [← List.getD_eq_getElem?_getD]; exact he
    rcases Nat.eq_zero_or_pos k with q | q
    ·obtain ⟨rfl, hHH⟩ := k0 q
     subst q
     exact ⟨H9, by simp [jgx, he'], by rw [← hHH]; exact hs19, Nat.le_refl _⟩
    ·obtain ⟨Hs, rfl, hHs, hHz⟩ := k1 q
     exact ⟨Hs, by simp [jgx, List.range_succ, he'], hHs, by omega⟩
  ·refine zs ?_
   rw [if_pos trivial]
   obtain rfl : k = es.length := by omega
   have zr := jd9 (p := (0, 0)) (n := M)
   simp only at zr
   have cpy : ∀ (b : Nat) (H0 : Heap), b = H.size → H0 = H.push (.cells (smps (List.replicate M (0, 0))) true 0) → copyA H0 2 (.slice b 0 M (.known M)) vn = some (.int .i64 (ns.length : Nat), H.push (.cells (smps (scnL p [] ns 0 M)) true 0)) := by
    rintro b H0 rfl rfl
    have g := jaz (h := H) (b := .cells (smps (List.replicate M (0, 0))) true 0) (i := H.size) rfl
    rw [copy2 (jfA cH (HSub.push1 _ _)) g (by simp) hnl, List.drop_replicate, joI (es := []) hnl, jhX (h := H) (i := H.size) rfl]
   refine WM.seqP fun ph => ?_
   refine zs3 @f7 @gm @zr ?_
   refine WM.seqP fun ph => ?_
   refine zs2 @f2 (cpy _ _ rfl rfl) ?_
   have Vl2 := VH.len
   have zHc := sHc.size
   have zsz := hs.size
   refine WM.seq ?_
   refine WM.seqP fun ph => ?_
   refine zs2 @f11 @Vl2 ?_
   refine WM.block ?_
   refine WM.loop (fun j g st => ∃ (D rem : List EmitP), (D ++ rem).Perm es ∧ j = rem.length ∧ st.m = [] ∧ st.t 17 = .ptr (h1.size + 1) 0 ∧ st.t 20 = .slice H.size 0 M (.known M) ∧ st.t 87 = .int .i64 (es.length : Nat) ∧ st.t 88 = .int .i64 (D.length : Nat) ∧ st.h.get H.size = some (.cells (smps (scnL p D ns D.length M)) true 0) ∧ H.size < st.h.size ∧
    (rem = [] → g = .idle ∧ HSub h st.h) ∧ (rem ≠ [] → ∃ Hs, g = .busy h1.size (rem.map fun e => waveP p e M) Hs ∧ HSub Hc Hs ∧ Hs.size ≤ H.size ∧ ∃ wr u, st.h.get (h1.size + 1) = some (.cells [.chan h1.size] wr u))) (j0 := es.length)
    ⟨[], es, List.Perm.refl _, rfl, rfl, f17, rfl, rfl, rfl, jaz rfl, by simp, fun q => ?_, fun q => ?_⟩ ?_
   ·obtain ⟨rfl, hHH⟩ := k0 (by rw [q]; rfl)
    exact ⟨rfl, by rw [hHH]; exact (hs.trans sHc).push _⟩
   ·obtain ⟨Hs, rfl, hHs, hHz⟩ := k1 (List.length_pos_iff.2 q)
    refine ⟨Hs, ?_, hHs, hHz, wc, uc, ?_⟩
    ·congr 1
     refine List.ext_getElem (by simp) fun i a1 a2 => ?_
     have : i < es.length := by simpa using a1
     simp [List.getD_eq_getElem?_getD, this]
    ·exact ((HSub.push1 H _).get _ (Heap.lt_of_get gc)).trans gc
   ·rintro j g2 ⟨u2, H2, mk2⟩ ⟨D, rem, hperm, hj2, hm2, r17, r20, r87, r88, gb, zb, i0, i1⟩
    dsimp only at hm2 r17 r20 r87 r88 gb zb i0 i1
    subst hm2
    have hlen := hperm.length_eq
    rw [List.length_append] at hlen
    refine WM.seqP fun ph => ?_
    refine zs2 @r87 @r88 ?_
    refine WM.seqP fun ph => ?_
    refine zs ?_
    refine Br.by (fun c3 => ?_) (fun c3 => ?_)
    ·have hrem : rem ≠ [] := by rintro rfl; simp at hlen; omega
     obtain ⟨Hs, rfl, hHs, hHz, wr', uu', gc2⟩ := i1 hrem
     refine zs ?_
     refine WM.seq (WM.block ?_)
     refine WM.seq (WM.region ?_)
     refine WMo.one rfl (by decide) ?_
     refine zs2 @r17 @gc2 ?_
     refine WMo.recv ?_
     show jlj (.busy h1.size (rem.map fun e => waveP p e M) Hs) (.chan h1.size) (some 91) _ ⟨_, H2, []⟩
     refine jkI (h := h) (Hc := Hc) (b := H.size) (by omega) (hs.trans sHc) hHs hHz zb gb fun g3 H3 A e B hr gr gb3 z3 hlast hmore => ?_
     have hrs : D.length + (A ++ B).length + 1 = es.length := by rw [hr] at hlen; simp only [List.length_append, List.length_cons] at hlen ⊢; omega
     have hpe : (D ++ e :: (A ++ B)).Perm es := by
      rw [hr] at hperm
      exact (List.Perm.append_left D (List.perm_middle.symm)).trans hperm
     have okD : ∀ i, i < D.length + 1 → EmOk p ((D ++ [e]).getD i eD) := fun i hi => by
      have hm : (D ++ [e]).getD i eD ∈ es := by
       refine hpe.subset ?_
       have hl : i < (D ++ [e]).length := by simp; omega
       rw [List.getD_eq_getElem?_getD, List.getElem?_eq_getElem hl, Option.getD_some]
       have := List.getElem_mem hl
       rcases List.mem_append.1 this with q | q
       ·exact List.mem_append_left _ q
       ·rw [List.mem_singleton] at q; rw [q]; simp
      obtain ⟨m, hm1, hm2⟩ := List.getElem_of_mem hm
      have := eok m hm1
      rw [List.getD_eq_getElem?_getD, List.getElem?_eq_getElem hm1, Option.getD_some, hm2] at this
      exact this
     refine WMo.one rfl (by decide) ?_
     refine zs ?_
     refine WMo.one rfl (by decide) ?_
     refine zs ?_
     refine WMo.nil ?_
     refine WM.plain fun ph => ?_
     refine zs ?_
     refine jaA (fun j u h' => ∃ n : Nat, u 93 = .int .i64 (n : Nat) ∧ n ≤ M ∧ j = M - n ∧ u 17 = .ptr (h1.size + 1) 0 ∧ u 20 = .slice H.size 0 M (.known M) ∧ u 87 = .int .i64 (es.length : Nat) ∧ u 88 = .int .i64 (D.length : Nat) ∧ u 91 = .slice H2.size 0 M (.known M) ∧ u 92 = .int .i64 (M : Nat) ∧
      h'.get H.size = some (.cells (smps (scnP p (D ++ [e]) ns D.length n M)) true 0) ∧ h'.get H2.size = some (.cells (smps (wv p e M M)) false 0) ∧ H3.size ≤ h'.size ∧ (∀ i, i < H3.size → i ≠ H.size → h'.get i = H3.get i)) (j0 := M)
      ⟨0, rfl, by omega, rfl, r17, r20, r87, r88, rfl, rfl, by rw [joH, jqw]; exact gb3, gr, Nat.le_refl _, fun _ _ _ => rfl⟩ ?_
     rintro j3 u3 H4 ⟨n, x93, hn, hj3, x17, x20, x87, x88, x91, x92, gb4, gr4, z4, K4⟩
     refine zs2 @x92 @x93 ?_
     refine Br.by (fun c4 => ?_) (fun c4 => ?_)
     ·have hn' : n < M := by omega
      have qS := SI.known (l := wv p e M M) (m := M) (c := M) gr4 ⟨jeO.symm, by omega⟩ (Nat.le_refl _)
      have ni := qS.idx (kk := .i64) (k := (n : Nat)) ⟨by omega, by rw [jeO]; omega⟩
      rw [Int.toNat_natCast] at ni
      have ld := qS.loadA (k := n) (by rw [jeO]; exact hn')
      have wg : (wv p e M M).getD n (0, 0) = atV p e (n : Nat) := by simp [wv, List.getD_eq_getElem?_getD, hn']
      rw [wg, ji3, jk3, gr4, Nat.zero_add] at ld
      have okE : EmOk p e := by
       have := okD D.length (by omega)
       simpa [List.getD_eq_getElem?_getD] using this
      have hat := jjo okE (n : Nat)
      have sv0 := jik (es := D ++ [e]) hp nin D.length n (fun i hi => okD i (by omega))
      have sv1 := jik (es := D ++ [e]) hp nin (D.length + 1) n okD
      have set := jqm (p := p) (es := D ++ [e]) (ns := ns) (k := D.length) hn'
      have get := jql (p := p) (es := D ++ [e]) (ns := ns) (k := D.length) hn'
      have add : scnV p (D ++ [e]) ns (D.length + 1) n = addP (scnV p (D ++ [e]) ns D.length n) (atV p e (n : Nat)) := by
       rw [jju, jfO _ (Nat.le_refl _)]
      have ln : (scnP p (D ++ [e]) ns D.length n M).length = M := jkB
      have ln2 : (smps (scnP p (D ++ [e]) ns D.length n M)).length = M * 2 := by rw [jaW, ln]
      have sp := jgp (l := scnP p (D ++ [e]) ns D.length n M) (k := n) (p := scnV p (D ++ [e]) ns (D.length + 1) n) (by rw [ln]; exact hn')
      have g1 : (scnP p (D ++ [e]) ns D.length n M)[n]? = some (scnV p (D ++ [e]) ns D.length n) := by
       rw [List.getD_eq_getElem?_getD, List.getElem?_eq_getElem (by rw [ln]; exact hn'), Option.getD_some] at get
       rw [List.getElem?_eq_getElem (by rw [ln]; exact hn'), get]
      have i0' : (smps (scnP p (D ++ [e]) ns D.length n M))[n * 2]? = some (.int .i64 (scnV p (D ++ [e]) ns D.length n).1) := by rw [jeE, g1]; rfl
      have i1' : (smps (scnP p (D ++ [e]) ns D.length n M))[n * 2 + 1]? = some (.int .i64 (scnV p (D ++ [e]) ns D.length n).2) := by rw [jdM, g1]; rfl
      rw [set] at sp
      rw [add] at sp sv1
      generalize atV p e (n : Nat) = y at ld hat sp sv1
      generalize scnV p (D ++ [e]) ns D.length n = x at i0' i1' sv0 sp sv1
      obtain ⟨y1, y2⟩ := y
      obtain ⟨x1, x2⟩ := x
      unfold inS at hat sv0 sv1
      unfold smp at ld
      unfold addP at sp sv1
      dsimp only at hat sv0 sv1 sp i0' i1'
      have hkk : (D.length : Int) < 8 := by omega
      have nzz := hp.2.2.2.2.2.2
      generalize scnP p (D ++ [e]) ns D.length n M = L at *
      have i2' : ∀ v : AV, ((smps L).set (n * 2) v)[n * 2 + 1]? = some (.int .i64 x2) := fun v => by rw [List.getElem?_set_ne (by omega)]; exact i1'
      have ss : ∀ a b : AV, ((smps L).set (n * 2) a).set (n * 2 + 1) b = splice (smps L) (n * 2) [a, b] := fun a b => jgz _ _ (by rw [ln2]; omega)
      have ln3 : ∀ v : AV, ((smps L).set (n * 2) v).length = M * 2 := fun v => by rw [List.length_set, ln2]
      refine zs ?_
      simp -implicitDefEqProofs (disch := first | exact zd | fail) only [↓wpPre, jbb, jbc, Int.reduceToNat, Int.reducePow, Int.reduceMul, Int.reduceAdd, Int.reduceSub, Int.reduceNeg, Nat.reduceAdd, Nat.reduceMul, Nat.reducePow, Int.reduceLT, Int.reduceLE, Int.reduceEq, Nat.reduceEqDiff, x20, x91, x93, ni, gr4, ld, gb4, i0', i1', i2', ln2, ln3, Heap.wf]
      refine ⟨_, ⟨n + 1, by omega, by omega, rfl, x17, x87, x88, x92, by rw [ss, sp], by omega, fun i hi hne => ?_⟩, by omega⟩
      rw [Heap.get_push, if_neg (by simp; omega)]
      exact (jaB (by omega)).trans (K4 i hi hne)
     ·obtain rfl : n = M := by omega
      rw [jqk] at gb4
      refine zs ?_
      refine WM.plain fun ph => ?_
      refine zs1 @x88 ?_
      have hD1 : (D ++ [e]).length = D.length + 1 := by simp
      refine ⟨(A ++ B).length, by rw [hj2, hr]; simp, D ++ [e], A ++ B, by rw [List.append_assoc]; exact hpe, rfl, x17, x20, x87, by rw [hD1]; omega, by rw [hD1]; exact gb4, by omega, fun q => ?_, fun q => ?_⟩
      ·obtain ⟨a, b⟩ := hlast q
       have := b.size
       exact ⟨a, ⟨by omega, fun i hi => by rw [K4 i (by omega) (by omega)]; exact b.get i hi⟩⟩
      ·obtain ⟨a, b⟩ := hmore q
       have b1 := b.size
       have b2 := Heap.lt_of_get gc2
       refine ⟨Hs, a, hHs, hHz, wr', uu', ?_⟩
       rw [K4 (h1.size + 1) (by omega) (by omega)]
       exact (b.get _ b2).trans gc2
    ·have hrem : rem = [] := List.eq_nil_of_length_eq_zero (by omega)
     subst hrem
     obtain ⟨rfl, hsub⟩ := i0 rfl
     refine zs ?_
     rw [if_pos trivial]
     refine WM.plain fun ph => ?_
     refine zs1 @r20 ?_
     rw [List.append_nil] at hperm
     exact hfin _ _ H.size rfl rfl hsub (by omega) (by rw [gb, joS hperm])
end
end Go.Ae
namespace Go.Ae
theorem jin {p : PlanP} {es : List EmitP} {ns : List (Int × Int)} {m : Int} (h : jbo p es ns m = 0) : p.err = 0 ∧ es.length ≤ 8 ∧ 0 ≤ m ∧ m ≤ 1048576 ∧ (ns.length : Int) ≤ m ∧ ∀ x ∈ ns, inS p.nz x := by
 unfold jbo at h
 by_cases c : p.err ≠ 0
 ·rw [if_pos c] at h; exact absurd h c
 ·rw [if_neg c] at h
  have pz := Classical.not_not.1 c
  split at h
  ·cases h
  ·split at h
   ·rename_i q; exact absurd h q
   ·split at h
    ·cases h
    ·split at h
     ·cases h
     ·split at h
      ·cases h
      ·rename_i q1 q2 q3 q4 q5
       exact ⟨pz, by omega, by omega, by omega, by omega, fun x hx => Classical.not_not.1 fun y => q5 ⟨x, hx, y⟩⟩
section
variable {C : Ctx}
set_option maxRecDepth 20000 in
theorem jmC (hC : Has C T231) {vp ve vn : AV} {p : PlanP} {es : List EmitP} {ns : List (Int × Int)} {m : Int} {h : Heap} (R : RI h vp p.prns) (h64 : p.ok64) (E : EmsI h ve es) (h65 : ∀ k, k < es.length → (es.getD k eD).ok64) (N : SI h vn ns) (hm : In64 m) :
  ACalls C.main0 231 [plA p vp, ve, vn, .int .i64 m] h (fun r h' => ∃ w, r = ja2 w (jbo p es ns m) ∧ HSub h h' ∧ SI h' w (if jbo p es ns m = 0 then scnL p es ns es.length m.toNat else []) ∧ ∀ i ∈ w.ids, h.size ≤ i) := by
 refine jmx (hC.body (by decide) tab231) (Nat.le_of_ble_eq_true rfl) ?_
 refine jkH hC R h64 E h65 N hm (fun t h' hne a b hs => ⟨rfl, ?_⟩) (fun t h' cs hz eok a b hs gM V S => ?_)
 ·show ∃ w, AV.tuple [t 8, t 9] = ja2 w _ ∧ _
  rw [a, b]
  exact jsx rfl hne hs
 ·obtain ⟨pz, n8, m0, m1, nl, nin⟩ := jin hz
  have hp : p.numsOk := by
   by_cases q : p.numsOk
   ·exact q
   ·exfalso; unfold PlanP.err at pz; rw [if_neg q] at pz; cases pz
  obtain ⟨M, rfl⟩ := Int.eq_ofNat_of_zero_le m0
  refine jmB hC h65 n8 (by omega) eok (by omega) hp nin (fun t' h2 b' x8 x9 hs' hb hg => ⟨rfl, ?_⟩) a b hs gM ((N.mono hs).content) V S
  show ∃ w, AV.tuple [t' 8, t' 9] = ja2 w _ ∧ _
  rw [x8, x9, hz]
  refine ⟨.slice b' 0 M (.known M), rfl, hs', ?_, fun i hi => by simp only [AV.ids, List.mem_singleton] at hi; omega⟩
  rw [if_pos rfl]
  exact SI.known hg ⟨jdt.symm, by omega⟩ (Nat.le_refl _)
end
end Go.Ae
namespace Go.Ae
def E0r : EmitP := ⟨1, 3, -64, 0, 0, 2, 0, [0, 1]⟩
def E0b : EmitP := ⟨1, 3, 0, 0, 0, 2, 1, [0, 1]⟩
def E0p : EmitP := ⟨1, 3, 0, 0, 1073741824, 2, 0, [0, 1]⟩
def E0o : EmitP := ⟨3, 3, 0, 0, 0, 2, 0, [0, 1]⟩
def E0l : EmitP := ⟨1, 3, 0, 0, 0, 11, 0, [0, 1]⟩
theorem joT : E0r.ok64 := by unfold EmitP.ok64 E0r In64 U32; simp
theorem jsC : E0b.ok64 := by unfold EmitP.ok64 E0b In64 U32; simp
theorem jsD : E0p.ok64 := by unfold EmitP.ok64 E0p In64 U32; simp
theorem jsE : E0o.ok64 := by unfold EmitP.ok64 E0o In64 U32; simp
theorem jsF : E0l.ok64 := by unfold EmitP.ok64 E0l In64 U32; simp
theorem ks0' : madeErr P0 E0 0 = 0 ∧ EmitP.sta E0 P0 0 = 3 := by decide +kernel
theorem ks0 : jcN P0 E0 0 = tup2 3 0 := by unfold jcN; rw [if_pos ks0'.1, ks0'.2]
theorem ks1' : madeErr P0 E0r 1 = 0 ∧ EmitP.sta E0r P0 1 = 64 := by decide +kernel
theorem ks1 : jcN P0 E0r 1 = tup2 64 0 := by unfold jcN; rw [if_pos ks1'.1, ks1'.2]
theorem ks16' : madeErr P0 E0r 16 = 0 ∧ EmitP.sta E0r P0 16 = 994 := by decide +kernel
theorem ks16 : jcN P0 E0r 16 = tup2 994 0 := by unfold jcN; rw [if_pos ks16'.1, ks16'.2]
theorem ks17' : madeErr P0 E0r 17 = 0 ∧ EmitP.sta E0r P0 17 = 1055 := by decide +kernel
theorem ks17 : jcN P0 E0r 17 = tup2 1055 0 := by unfold jcN; rw [if_pos ks17'.1, ks17'.2]
theorem kp3' : madeErr P0 E0 3 = 0 ∧ EmitP.pl E0 P0 3 = 0 ∧ 3 - EmitP.sta E0 P0 0 = 0 := by decide +kernel
theorem kp3 : jdS P0 E0 3 = tupI3 0 0 0 := by unfold jdS; rw [if_pos kp3'.1, kp3'.2.1, kp3'.2.2]
theorem kp65' : madeErr P0 E0 65 = 0 ∧ EmitP.pl E0 P0 65 = 1 ∧ 65 - EmitP.sta E0 P0 1 = 0 := by decide +kernel
theorem kp65 : jdS P0 E0 65 = tupI3 1 0 0 := by unfold jdS; rw [if_pos kp65'.1, kp65'.2.1, kp65'.2.2]
theorem kb1' : madeErr P0 E0 1 = 0 ∧ bitI P0 E0 1 = 0 := by decide +kernel
theorem kb1 : bitE P0 E0 1 = tup2 0 0 := by unfold bitE; rw [if_pos kb1'.1, kb1'.2]
theorem kb2' : madeErr P0 E0 2 = 0 ∧ bitI P0 E0 2 = 1 := by decide +kernel
theorem kb2 : bitE P0 E0 2 = tup2 1 0 := by unfold bitE; rw [if_pos kb2'.1, kb2'.2]
theorem kbm' : madeErr P0 E0 (-1) = 0 ∧ bitI P0 E0 (-1) = 1 := by decide +kernel
theorem kbm : bitE P0 E0 (-1) = tup2 1 0 := by unfold bitE; rw [if_pos kbm'.1, kbm'.2]
theorem kb0' : madeErr P0 E0b 0 = 0 ∧ bitI P0 E0b 0 = 1 := by decide +kernel
theorem kb0 : bitE P0 E0b 0 = tup2 1 0 := by unfold bitE; rw [if_pos kb0'.1, kb0'.2]
theorem ka3' : madeErr P0 E0 3 = 0 ∧ atV P0 E0 3 = (-254, 0) := by decide +kernel
theorem ka3 : atE P0 E0 3 = .tuple [.agg [.int .i64 (-254), .int .i64 (0)], .int .i64 0] := by unfold atE; rw [if_pos ka3'.1, ka3'.2]; rfl
theorem jqK : madeErr P0 E0p 127 = 0 ∧ atV P0 E0p 127 = (0, 254) := by decide +kernel
theorem ka127 : atE P0 E0p 127 = .tuple [.agg [.int .i64 (0), .int .i64 (254)], .int .i64 0] := by unfold atE; rw [if_pos jqK.1, jqK.2]; rfl
theorem kc12 : emitErr P0 E0o = 18 ∧ emitErr P0 E0l = 2 ∧ emitErr P0 E0 = 0 ∧ madeErr P0 E0 0 = 0 := by decide +kernel
section
variable {C : Ctx}
theorem jfF (hC : Has C T234) {h : Heap} : ACalls C 234 [] h (fun r h' => r = .agg [.int .i64 1, .int .i64 3, .int .i64 0, .int .u32 0, .int .u32 0, .int .i64 2, .int .i64 0, .slice (h.size + 1) 0 2 (.known 2)] ∧ h' = (h.push (.cells [.int .i64 1, .int .i64 3, .int .i64 0, .int .u32 0, .int .u32 0, .int .i64 2, .int .i64 0, .slice (h.size + 1) 0 2 (.known 2)] true 0)).push (.cells [.int .i64 0, .int .i64 1] true 0)) := by
 refine zf hC tab234 ?_; simp only [B234, zB.1]; exact ze
theorem jio (hC : Has C T233) {h : Heap} : ACalls C 233 [] h (fun r h' => r = .agg [.int .i64 5, .int .i64 2, .int .i64 2, .int .i64 2, .int .i64 1, .int .i64 10, .int .i64 5, .slice (h.size + 1) 0 2 (.known 2)] ∧ h' = (h.push (.cells [.int .i64 5, .int .i64 2, .int .i64 2, .int .i64 2, .int .i64 1, .int .i64 10, .int .i64 5, .slice (h.size + 1) 0 2 (.known 2)] true 0)).push (.cells [.int .i64 1, .int .i64 2] true 0)) := by
 refine zf hC tab233 ?_; simp only [B233, zB.1]; exact ze
set_option maxHeartbeats 8000000 in
set_option maxRecDepth 40000 in
theorem jeQ (hC : Has C T212) {h : Heap} : ACalls C 212 [] h (fun r h' => r = .bool true ∧ h' = h) := by
 refine ACalls.gc0 (P := fun r h' => r = .bool true ∧ HSub h h') ?_ (fun r h' hp => ⟨by rw [hp.1]; trivial, hp.2, hp.1, rfl⟩)
 have kp := fun h => jio (zu hC T233) (h := h)
 have ke := fun h => jfF (zu hC T234) (h := h)
 have aw := fun h => jil (zu hC T218) (h := h)
 have S := fun (E : EmitP) (h65 : E.ok64) (n : Int) (hn : In64 n) (v w : AV) h1 (hp : PlI h1 v P0) (he : EmI h1 w E) => jhp (zu hC T221) (n := n) hp he P0_64 h65 hn
 have P := fun (E : EmitP) (h65 : E.ok64) (n : Int) (hn : In64 n) (v w : AV) h1 (hp : PlI h1 v P0) (he : EmI h1 w E) => jhq (zu hC T225) (n := n) hp he P0_64 h65 hn
 have B := fun (E : EmitP) (h65 : E.ok64) (n : Int) (hn : In64 n) (v w : AV) h1 (hp : PlI h1 v P0) (he : EmI h1 w E) => jqg (zu hC T227) (n := n) hp he P0_64 h65 hn
 have A := fun (E : EmitP) (h65 : E.ok64) (n : Int) (hn : In64 n) (v w : AV) h1 (hp : PlI h1 v P0) (he : EmI h1 w E) => jkv (zu hC T229) (n := n) hp he P0_64 h65 hn
 have K := fun (E : EmitP) (h65 : E.ok64) (v w : AV) h1 (hp : PlI h1 v P0) (he : EmI h1 w E) => jho (zu hC T223) hp he P0_64 h65
 have I : ∀ n : Int, -1000 ≤ n ∧ n ≤ 1000 → In64 n := fun n hn => by unfold In64; omega
 refine zf hC tab212 ?_; simp only [B212, zB.1]; refine zs ?_
 refine jaa.eq (kp _) ?_
 refine zs ?_
 refine jaa.eq (ke _) ?_
 refine zs ?_
 refine jaa.eq2 (S E0 E0_64 0 (I _ (by omega)) _ _ _ ⟨_, rfl, RI.known (wr := true) (u := 0) (by refine zs ?_; rfl) ⟨rfl, by decide⟩ (Nat.le_refl _)⟩ ⟨_, rfl, RI.known (wr := true) (u := 0) (by refine zs ?_; rfl) ⟨rfl, by decide⟩ (Nat.le_refl _)⟩) ks0 ?_
 refine zs1 @tup2.eq_1 ?_
 refine jaa.eq2 (S E0r joT 1 (I _ (by omega)) _ _ _ ⟨_, rfl, RI.known (wr := true) (u := 0) (by refine zs ?_; rfl) ⟨rfl, by decide⟩ (Nat.le_refl _)⟩ ⟨_, rfl, RI.known (wr := true) (u := 0) (by refine zs ?_; rfl) ⟨rfl, by decide⟩ (Nat.le_refl _)⟩) ks1 ?_
 refine zs1 @tup2.eq_1 ?_
 refine jaa.eq2 (S E0r joT 16 (I _ (by omega)) _ _ _ ⟨_, rfl, RI.known (wr := true) (u := 0) (by refine zs ?_; rfl) ⟨rfl, by decide⟩ (Nat.le_refl _)⟩ ⟨_, rfl, RI.known (wr := true) (u := 0) (by refine zs ?_; rfl) ⟨rfl, by decide⟩ (Nat.le_refl _)⟩) ks16 ?_
 refine zs1 @tup2.eq_1 ?_
 refine jaa.eq2 (S E0r joT 17 (I _ (by omega)) _ _ _ ⟨_, rfl, RI.known (wr := true) (u := 0) (by refine zs ?_; rfl) ⟨rfl, by decide⟩ (Nat.le_refl _)⟩ ⟨_, rfl, RI.known (wr := true) (u := 0) (by refine zs ?_; rfl) ⟨rfl, by decide⟩ (Nat.le_refl _)⟩) ks17 ?_
 refine zs2 @tup2.eq_1 @gV_u ?_
 refine jaa.eq (ke _) ?_
 refine zs ?_
 refine jaa.eq2 (P E0 E0_64 3 (I _ (by omega)) _ _ _ ⟨_, rfl, RI.known (wr := true) (u := 0) (by refine zs ?_; rfl) ⟨rfl, by decide⟩ (Nat.le_refl _)⟩ ⟨_, rfl, RI.known (wr := true) (u := 0) (by refine zs ?_; rfl) ⟨rfl, by decide⟩ (Nat.le_refl _)⟩) kp3 ?_
 refine zs2 @tupI3.eq_1 @gV_u ?_
 refine jaa.eq2 (P E0 E0_64 65 (I _ (by omega)) _ _ _ ⟨_, rfl, RI.known (wr := true) (u := 0) (by refine zs ?_; rfl) ⟨rfl, by decide⟩ (Nat.le_refl _)⟩ ⟨_, rfl, RI.known (wr := true) (u := 0) (by refine zs ?_; rfl) ⟨rfl, by decide⟩ (Nat.le_refl _)⟩) kp65 ?_
 refine zs2 @tupI3.eq_1 @gV_u ?_
 refine jaa.eq2 (B E0 E0_64 1 (I _ (by omega)) _ _ _ ⟨_, rfl, RI.known (wr := true) (u := 0) (by refine zs ?_; rfl) ⟨rfl, by decide⟩ (Nat.le_refl _)⟩ ⟨_, rfl, RI.known (wr := true) (u := 0) (by refine zs ?_; rfl) ⟨rfl, by decide⟩ (Nat.le_refl _)⟩) kb1 ?_
 refine zs1 @tup2.eq_1 ?_
 refine jaa.eq2 (B E0 E0_64 2 (I _ (by omega)) _ _ _ ⟨_, rfl, RI.known (wr := true) (u := 0) (by refine zs ?_; rfl) ⟨rfl, by decide⟩ (Nat.le_refl _)⟩ ⟨_, rfl, RI.known (wr := true) (u := 0) (by refine zs ?_; rfl) ⟨rfl, by decide⟩ (Nat.le_refl _)⟩) kb2 ?_
 refine zs1 @tup2.eq_1 ?_
 refine jaa.eq2 (B E0 E0_64 (-1) (I _ (by omega)) _ _ _ ⟨_, rfl, RI.known (wr := true) (u := 0) (by refine zs ?_; rfl) ⟨rfl, by decide⟩ (Nat.le_refl _)⟩ ⟨_, rfl, RI.known (wr := true) (u := 0) (by refine zs ?_; rfl) ⟨rfl, by decide⟩ (Nat.le_refl _)⟩) kbm ?_
 refine zs1 @tup2.eq_1 ?_
 refine jaa.eq2 (B E0b jsC 0 (I _ (by omega)) _ _ _ ⟨_, rfl, RI.known (wr := true) (u := 0) (by refine zs ?_; rfl) ⟨rfl, by decide⟩ (Nat.le_refl _)⟩ ⟨_, rfl, RI.known (wr := true) (u := 0) (by refine zs ?_; rfl) ⟨rfl, by decide⟩ (Nat.le_refl _)⟩) kb0 ?_
 refine zs2 @tup2.eq_1 @gV_u ?_
 refine jaa.eq (ke _) ?_
 refine zs ?_
 refine jaa.eq2 (A E0 E0_64 3 (I _ (by omega)) _ _ _ ⟨_, rfl, RI.known (wr := true) (u := 0) (by refine zs ?_; rfl) ⟨rfl, by decide⟩ (Nat.le_refl _)⟩ ⟨_, rfl, RI.known (wr := true) (u := 0) (by refine zs ?_; rfl) ⟨rfl, by decide⟩ (Nat.le_refl _)⟩) ka3 ?_
 refine zs1 @gV_u ?_
 refine jaa.eq2 (A E0p jsD 127 (I _ (by omega)) _ _ _ ⟨_, rfl, RI.known (wr := true) (u := 0) (by refine zs ?_; rfl) ⟨rfl, by decide⟩ (Nat.le_refl _)⟩ ⟨_, rfl, RI.known (wr := true) (u := 0) (by refine zs ?_; rfl) ⟨rfl, by decide⟩ (Nat.le_refl _)⟩) ka127 ?_
 refine zs2 @gV_u @jjh ?_
 refine jaa.eq (ke _) ?_
 refine zs ?_
 refine jaa.hide (fun H hH => ?_)
 have N : H.size = h.size + 15 := by rw [hH]; exact ze
 have gR : H.get (h.size + 1) = some (.cells (ints [1, 2]) true 0) := by rw [hH]; refine zs ?_; rfl
 have gB : H.get (h.size + 1 + 1 + 1 + 1 + 1 + 1 + 1 + 1 + 1 + 1 + 1 + 1 + 1) = some (.cells (ints [0, 1]) true 0) := by rw [hH]; refine zs ?_; rfl
 have gp : H.get (h.size + 1 + 1 + 1 + 1) = some (.cells [.int .i64 5, .int .i64 2, .int .i64 2, .int .i64 2, .int .i64 1, .int .i64 10, .int .i64 5, .slice (h.size + 1) 0 2 (.known 2)] true 0) := by rw [hH]; exact ze
 have ge : H.get (h.size + 1 + 1 + 1 + 1 + 1) = some (.cells [.int .i64 1, .int .i64 3, .int .i64 0, .int .u32 0, .int .u32 0, .int .i64 2, .int .i64 0, .slice (h.size + 1 + 1 + 1 + 1 + 1 + 1 + 1 + 1 + 1 + 1 + 1 + 1 + 1) 0 2 (.known 2)] true 0) := by rw [hH]; exact ze
 have gl : H.get (h.size + 1 + 1 + 1 + 1 + 1 + 1 + 1 + 1 + 1 + 1 + 1 + 1 + 1 + 1) = some (.cells ([.int .i64 1, .int .i64 3, .int .i64 0, .int .u32 0, .int .u32 0, .int .i64 2, .int .i64 0, .slice (h.size + 1 + 1 + 1 + 1 + 1 + 1 + 1 + 1 + 1 + 1 + 1 + 1 + 1) 0 2 (.known 2)] ++ [.int .i64 1, .int .i64 3, .int .i64 0, .int .u32 0, .int .u32 0, .int .i64 2, .int .i64 0, .slice (h.size + 1 + 1 + 1 + 1 + 1 + 1 + 1 + 1 + 1 + 1 + 1 + 1 + 1) 0 2 (.known 2)]) true 0) := by rw [hH]; exact ze
 have sH : HSub h H := by rw [hH]; exact (zh (HSub.refl h))
 clear hH
 have RR : RI H (.slice (h.size + 1) 0 2 (.known 2)) P0.prns := RI.known gR ⟨rfl, by decide⟩ (Nat.le_refl _)
 have BB : RI H (.slice (h.size + 1 + 1 + 1 + 1 + 1 + 1 + 1 + 1 + 1 + 1 + 1 + 1 + 1) 0 2 (.known 2)) E0.bits := RI.known gB ⟨rfl, by decide⟩ (Nat.le_refl _)
 have md := jkD (zu hC T231) RR P0_64 BB E0_64 kc12.2.2.2 gl
 refine jaa.of md ?_
 rintro r h2 ⟨s2, rfl⟩
 have gp2 := (s2.get _ (Heap.lt_of_get gp)).trans gp
 have ge2 := (s2.get _ (Heap.lt_of_get ge)).trans ge
 have RR2 := RR.mono s2
 have BB2 := BB.mono s2
 have N2 := s2.size
 have ml := fun b nb h3 (q : HSub h2 h3) gg gn => joJ (zu hC T231) (b := b) (nb := nb) (RR2.mono q) P0_64 (BB2.mono q) E0_64 kc12.2.2.2 (h := h3) ⟨by decide, by decide⟩ gg gn
 refine zs2 @gp2 @ge2 ?_
 refine jaa.of (ml h2.size (h2.size + 1) _ (zh (HSub.refl h2)) (by refine zs ?_; try rfl) (by exact ze; try rfl)) ?_
 rintro r h3 ⟨s3, rfl⟩
 have t3 : HSub h2 h3 := (by exact (zh (HSub.refl h2)) : HSub h2 _).trans s3
 have gp3 := (t3.get _ (Heap.lt_of_get gp2)).trans gp2
 have ge3 := (t3.get _ (Heap.lt_of_get ge2)).trans ge2
 have RR3 := RR2.mono t3
 have BB3 := BB2.mono t3
 have N3 := t3.size
 have sH3 := (sH.trans s2).trans t3
 refine zs ?_
 refine jaa.eq (ke _) ?_
 refine zs ?_
 refine jaa.eq (ke _) ?_
 refine zs ?_
 refine jaa.eq (aw _) ?_
 refine zs3 @gp3 @ge3 @gV_u ?_
 refine jaa.eq2 (K E0o jsE _ _ _ ⟨_, rfl, RR3.mono (by exact (zh (HSub.refl h3)))⟩ ⟨_, rfl, RI.known (wr := true) (u := 0) (by refine zs ?_; rfl) ⟨rfl, by decide⟩ (Nat.le_refl _)⟩) (congrArg (AV.int .i64) kc12.1) ?_
 refine zs2 @gp3 @ge3 ?_
 refine jaa.eq2 (K E0l jsF _ _ _ ⟨_, rfl, RR3.mono (by exact (zh (HSub.refl h3)))⟩ ⟨_, rfl, RI.known (wr := true) (u := 0) (by refine zs ?_; rfl) ⟨rfl, by decide⟩ (Nat.le_refl _)⟩) (congrArg (AV.int .i64) kc12.2.1) ?_
 refine zs2 @gp3 @ge3 ?_
 refine jaa.eq2 (K E0 E0_64 _ _ _ ⟨_, rfl, RR3.mono (by exact (zh (HSub.refl h3)))⟩ ⟨_, rfl, BB3.mono (by exact (zh (HSub.refl h3)))⟩) (congrArg (AV.int .i64) kc12.2.2.1) ?_
 refine zs ?_
 exact sH3.trans (by exact (zh (HSub.refl h3)))
end
end Go.Ae
namespace Go.Ae
section
variable {C : Ctx}
def someOf (l : List Int) (i : Nat) (n : Int) : Int := if i < l.length then l.getD i 0 % n else 0
theorem jjw (hC : Has C T45) {v : AV} {l : List Int} {i : Nat} {n : Int} {h : Heap} (hl : RI h v l) (hx : ∀ x ∈ l, In64 x) (hn : 1 ≤ n ∧ n ≤ 9223372036854775807) :
  ACalls C 45 [v, .int .i64 (i : Nat), .int .i64 n] h (fun r h' => r = .int .i64 (someOf l i n) ∧ h' = h) := by
 have hlt := hl.lt
 refine zf hC tab45 ?_; simp only [B45, zB.1]; refine zs1 @hl.len ?_
 refine Br.by (fun c => ?_) (fun c => ?_)
 ·simp -implicitDefEqProofs (disch := first | exact zd | fail) only [↓wpPre, jbb, jbc, Int.reduceToNat, Int.reducePow, Int.reduceMul, Int.reduceAdd, Int.reduceSub, Int.reduceNeg, Nat.reduceAdd, Nat.reduceMul, Nat.reducePow, Int.reduceLT, Int.reduceLE, Int.reduceEq, Nat.reduceEqDiff, someOf, if_neg (show ¬ i < l.length by omega)]
 ·have hi : i < l.length := by omega
  refine zs2 @hl.idx @hl.load ?_
  refine jaa.eq (jdN (zu hC T23) (hx _ (jbq hi)) hn) ?_
  simp -implicitDefEqProofs (disch := first | exact zd | fail) only [↓wpPre, jbb, jbc, Int.reduceToNat, Int.reducePow, Int.reduceMul, Int.reduceAdd, Int.reduceSub, Int.reduceNeg, Nat.reduceAdd, Nat.reduceMul, Nat.reducePow, Int.reduceLT, Int.reduceLE, Int.reduceEq, Nat.reduceEqDiff, someOf, if_pos hi]
end
end Go.Ae
namespace Go.Ae
theorem jag {l : List Int} {i : Nat} {n : Int} (hn : 1 ≤ n) : 0 ≤ someOf l i n ∧ someOf l i n < n := by
 unfold someOf
 split
 ·exact ⟨Int.emod_nonneg _ (by omega), Int.emod_lt_of_pos _ (by omega)⟩
 ·omega
def prnK (f : Int) (k : Nat) : List Int := (List.range k).map fun i => f + 4 * (i : Nat)
theorem jdu (f : Int) (k : Nat) : (prnK f k).length = k := by simp [prnK]
theorem jjx (f : Int) (k : Nat) : prnK f (k + 1) = prnK f k ++ [f + 4 * (k : Nat)] := by simp [prnK, List.range_succ]
def planOf (l : List Int) : PlanP := ⟨5 + someOf l 0 2, 1 + someOf l 1 3, 1 + someOf l 2 3, 2, 1 + someOf l 3 20, 1 + someOf l 3 20 + someOf l 5 20, someOf l 4 50, prnK (1 + someOf l 6 20) (someOf l 7 3 + 1).toNat⟩
theorem jlm (n f : Int) (hf : 1 ≤ f) : ∀ (m k : Nat), f + 4 * ((k + m : Nat) : Int) ≤ n + 6 → jbr n (prnK f k) ((List.range m).map fun i => f + 4 * ((k + i : Nat) : Int)) = 0
 | 0, k, _ => rfl
 | m + 1, k, h => by
  rw [List.range_succ_eq_map, List.map_cons, jbr, if_neg (by omega), if_neg]
  ·have e : prnK f k ++ [f + 4 * ((k + 0 : Nat) : Int)] = prnK f (k + 1) := by rw [jjx]; simp
   rw [e, List.map_map]
   have ih := jlm n f hf m (k + 1) (by omega)
   have e2 : ((fun i => f + 4 * ((k + i : Nat) : Int)) ∘ Nat.succ) = fun i => f + 4 * ((k + 1 + i : Nat) : Int) := by
    funext i
    show f + 4 * ((k + (i + 1) : Nat) : Int) = _
    omega
   rw [e2]
   exact ih
  ·intro q
   rw [List.any_eq_true] at q
   obtain ⟨x, hx, q⟩ := q
   obtain ⟨i, hi, rfl⟩ := List.mem_map.1 hx
   rw [beq_iff_eq] at q
   have := List.mem_range.1 hi
   omega
theorem jem (l : List Int) : (planOf l).numsOk := by
 have h0 := jag (l := l) (i := 0) (n := 2) (by omega)
 have h1 := jag (l := l) (i := 1) (n := 3) (by omega)
 have h2 := jag (l := l) (i := 2) (n := 3) (by omega)
 have h3 := jag (l := l) (i := 3) (n := 20) (by omega)
 have h4 := jag (l := l) (i := 4) (n := 50) (by omega)
 have h5 := jag (l := l) (i := 5) (n := 20) (by omega)
 unfold PlanP.numsOk planOf
 dsimp only
 refine ⟨?_, by omega, by omega, by omega, by omega, by omega, by omega⟩
 rcases (show someOf l 0 2 = 0 ∨ someOf l 0 2 = 1 by omega) with e | e <;> rw [e] <;> decide
theorem jhu (l : List Int) : (planOf l).err = 0 := by
 have h6 := jag (l := l) (i := 6) (n := 20) (by omega)
 have h7 := jag (l := l) (i := 7) (n := 3) (by omega)
 have hn := jem l
 have hN := jcS hn.1
 have hl : (planOf l).prns.length = (someOf l 7 3 + 1).toNat := jdu _ _
 unfold PlanP.err
 rw [if_pos hn, if_neg (by omega), if_neg (by omega)]
 have := jlm (lenN (planOf l).d) (1 + someOf l 6 20) (by omega) (someOf l 7 3 + 1).toNat 0 (by omega)
 have e : (planOf l).prns = (List.range (someOf l 7 3 + 1).toNat).map fun i => (1 + someOf l 6 20) + 4 * ((0 + i : Nat) : Int) := by
  show prnK _ _ = _
  unfold prnK
  refine List.map_congr_left fun i _ => ?_
  rw [Nat.zero_add]
 rw [e]
 exact this
theorem jjy (l : List Int) : (planOf l).ok64 := by
 have h0 := jag (l := l) (i := 0) (n := 2) (by omega)
 have h1 := jag (l := l) (i := 1) (n := 3) (by omega)
 have h2 := jag (l := l) (i := 2) (n := 3) (by omega)
 have h3 := jag (l := l) (i := 3) (n := 20) (by omega)
 have h4 := jag (l := l) (i := 4) (n := 50) (by omega)
 have h5 := jag (l := l) (i := 5) (n := 20) (by omega)
 have h6 := jag (l := l) (i := 6) (n := 20) (by omega)
 have h7 := jag (l := l) (i := 7) (n := 3) (by omega)
 unfold PlanP.ok64 planOf In64
 dsimp only
 refine ⟨by omega, by omega, by omega, by omega, by omega, by omega, by omega, fun x hx => ?_⟩
 obtain ⟨i, hi, rfl⟩ := List.mem_map.1 hx
 have := List.mem_range.1 hi
 omega
def bitK (l : List Int) (k : Nat) : List Int := (List.range k).map fun i => l.getD (7 + i) 0 % 2
theorem jgA (l : List Int) (k : Nat) : (bitK l k).length = k := by simp [bitK]
theorem joU (l : List Int) (k : Nat) : bitK l (k + 1) = bitK l k ++ [l.getD (7 + k) 0 % 2] := by simp [bitK, List.range_succ]
def jdU (p : PlanP) (l : List Int) : EmitP := ⟨p.prns.getD 0 0, someOf l 0 p.size, someOf l 1 129 - 64, someOf l 2 64 * 67108864 + someOf l 3 67108864, someOf l 4 64 * 67108864, p.mn + someOf l 5 (p.mx - p.mn + 1), someOf l 6 p.pb, bitK l (min l.length 20 - 7)⟩
theorem joV {p : PlanP} {l : List Int} (hp : p.numsOk) (h64 : p.ok64) (hl : 0 < p.prns.length) : (jdU p l).ok64 := by
 have sz := jbn hp
 have h0 := jag (l := l) (i := 0) (n := p.size) (by omega)
 have h1 := jag (l := l) (i := 1) (n := 129) (by omega)
 have h2 := jag (l := l) (i := 2) (n := 64) (by omega)
 have h3 := jag (l := l) (i := 3) (n := 67108864) (by omega)
 have h4 := jag (l := l) (i := 4) (n := 64) (by omega)
 have pm := hp.2.2.2.2
 have h5 := jag (l := l) (i := 5) (n := p.mx - p.mn + 1) (by omega)
 have pb := hp.2.2.1
 have h6 := jag (l := l) (i := 6) (n := p.pb) (by omega)
 have hx := h64.2.2.2.2.2.2.2 _ (jbq (l := p.prns) (i := 0) hl)
 unfold EmitP.ok64 jdU
 dsimp only
 refine ⟨hx, by unfold In64; omega, by unfold In64; omega, by unfold U32; omega, by unfold U32; omega, by unfold In64; omega, by unfold In64; omega, fun x hx => ?_⟩
 obtain ⟨i, _, rfl⟩ := List.mem_map.1 hx
 unfold In64; omega
theorem jmD {p : PlanP} {l : List Int} (hp : p.err = 0) : emitErr p (jdU p l) = 0 := by
 have pn := jih hp
 have sz := jbn pn
 have h0 := jag (l := l) (i := 0) (n := p.size) (by omega)
 have h1 := jag (l := l) (i := 1) (n := 129) (by omega)
 have pm := pn.2.2.2.2
 have h5 := jag (l := l) (i := 5) (n := p.mx - p.mn + 1) (by omega)
 have pb := pn.2.2.1
 have h6 := jag (l := l) (i := 6) (n := p.pb) (by omega)
 have hl : 0 < p.prns.length := by
  unfold PlanP.err at hp
  rw [if_pos pn] at hp
  by_cases c : p.prns.length = 0
  ·rw [if_pos c] at hp; omega
  ·omega
 have ha : (p.prns.any fun y => (jdU p l).prn == y) = true := by
  rw [List.any_eq_true]
  exact ⟨_, jbq hl, by simp [jdU]⟩
 have hn : (jdU p l).numsOk p := by
  unfold EmitP.numsOk jdU
  dsimp only
  omega
 have hb : (jdU p l).bits.any (fun b => b != 0 && b != 1) = false := by
  rw [List.any_eq_false]
  intro x hx
  obtain ⟨i, _, rfl⟩ := List.mem_map.1 hx
  have := Int.emod_two_eq (l.getD (7 + i) 0)
  rcases this with e | e <;> rw [e] <;> decide
 have hlen : (jdU p l).bits.length ≤ 20 := by
  show (bitK _ _).length ≤ 20
  rw [jgA]; omega
 unfold emitErr
 rw [if_pos hp, if_pos ha, if_pos hn, if_neg (by omega), if_neg (by rw [hb]; decide)]
theorem GrwI.putNe {h0 H : Heap} {v : AV} {l : List Int} {i : Nat} {b : ABlk} (A : GrwI h0 H v l) (hi : h0.size ≤ i) (hn : ∀ j ∈ v.ids, j ≠ i) : GrwI h0 (H.put i b) v l := by
 obtain ⟨hs, hl, hn', ⟨rfl, e⟩ | ⟨j, ex, hj, rfl, hg⟩⟩ := A
 ·exact ⟨hs.put hi b, hl, hn', .inl ⟨rfl, e⟩⟩
 ·exact ⟨hs.put hi b, hl, hn', .inr ⟨j, ex, hj, rfl, (jaB (hn j (by simp [AV.ids]))).trans hg⟩⟩
theorem jln {H : Heap} {v : AV} {sz j : Nat} {cs : List AV} (hj : j < H.size) (hv : j ∉ v.ids) : (snocH H none v sz cs).get j = H.get j := by
 unfold snocH
 cases v
 case slice i o n c => exact (jav (by simpa using hj)).trans (jaB (fun e => hv (by simp [AV.ids, e])))
 all_goals exact jav hj
theorem jmE {H : Heap} {v : AV} {sz : Nat} {cs : List AV} : (snocH H none v sz cs).size = H.size + 1 := by
 unfold snocH
 cases v <;> simp [Heap.new]
section
variable {C : Ctx}
set_option maxHeartbeats 4000000 in
set_option maxRecDepth 20000 in
theorem jmF (hC : Has C T235) {v : AV} {l : List Int} {h : Heap} (hl : RI h v l) (hx : ∀ x ∈ l, In64 x) : ACalls C 235 [v] h (fun r h' => HSub h h' ∧ ∃ vp, r = .agg [.int .i64 (planOf l).d, .int .i64 (planOf l).o, .int .i64 (planOf l).pb, .int .i64 (planOf l).w, .int .i64 (planOf l).mn, .int .i64 (planOf l).mx, .int .i64 (planOf l).nz, vp] ∧ RI h' vp (planOf l).prns ∧ ∀ i ∈ vp.ids, h.size ≤ i) := by
 have hlt := hl.lt
 have S := fun (i : Nat) (n : Int) (hn : 1 ≤ n ∧ n ≤ 9223372036854775807) h1 (q : HSub h h1) => jjw (zu hC T45) (i := i) (hl.mono q) hx hn
 have h0 := jag (l := l) (i := 0) (n := 2) (by omega)
 have h1 := jag (l := l) (i := 1) (n := 3) (by omega)
 have h2 := jag (l := l) (i := 2) (n := 3) (by omega)
 have h3 := jag (l := l) (i := 3) (n := 20) (by omega)
 have h4 := jag (l := l) (i := 4) (n := 50) (by omega)
 have h5 := jag (l := l) (i := 5) (n := 20) (by omega)
 have h6 := jag (l := l) (i := 6) (n := 20) (by omega)
 have h7 := jag (l := l) (i := 7) (n := 3) (by omega)
 unfold planOf
 dsimp only
 have S0 := S 0 2 (by omega)
 have S1 := S 1 3 (by omega)
 have S2 := S 2 3 (by omega)
 have S3 := S 3 20 (by omega)
 have S4 := S 4 50 (by omega)
 have S5 := S 5 20 (by omega)
 have S6 := S 6 20 (by omega)
 have S7 := S 7 3 (by omega)
 generalize someOf l 0 2 = a0 at *
 generalize someOf l 1 3 = a1 at *
 generalize someOf l 2 3 = a2 at *
 generalize someOf l 3 20 = a3 at *
 generalize someOf l 4 50 = a4 at *
 generalize someOf l 5 20 = a5 at *
 generalize someOf l 6 20 = a6 at *
 generalize someOf l 7 3 = a7 at *
 refine zf hC tab235 ?_; simp only [B235, zB.1]; refine zs ?_
 refine jaa.eq (S0 _ (zh (HSub.refl h))) ?_
 refine zs ?_
 refine jaa.eq (S1 _ (zh (HSub.refl h))) ?_
 refine zs ?_
 refine jaa.eq (S2 _ (zh (HSub.refl h))) ?_
 refine zs ?_
 refine jaa.eq (S3 _ (zh (HSub.refl h))) ?_
 refine zs ?_
 refine jaa.eq (S4 _ (zh (HSub.refl h))) ?_
 refine zs ?_
 refine jaa.eq (S5 _ (zh (HSub.refl h))) ?_
 refine zs ?_
 refine jaa.eq (S6 _ (zh (HSub.refl h))) ?_
 refine zs ?_
 refine jaA (fun j t h' => ∃ (k : Nat) (pv : AV), HSub h h' ∧ GrwI h h' pv (prnK (1 + a6) k) ∧ (∀ i ∈ pv.ids, h.size + 1 < i) ∧ h.size + 1 < h'.size ∧ h'.get h.size = some (.cells [.int .i64 0, .int .i64 0, .int .i64 0, .int .i64 0, .int .i64 0, .int .i64 0, .int .i64 0, .nilslice] true 0) ∧
   h'.get (h.size + 1) = some (.cells [.int .i64 (5 + a0), .int .i64 (1 + a1), .int .i64 (1 + a2), .int .i64 2, .int .i64 (1 + a3), .int .i64 (1 + a3 + a5), .int .i64 a4, pv] true 0) ∧ t 0 = v ∧ t 2 = .ptr h.size 0 ∧ t 3 = .ptr (h.size + 1) 0 ∧ t 4 = .int .i64 (1 + a6) ∧ t 5 = .int .i64 (k : Nat) ∧ (k : Int) ≤ a7 + 1 ∧ j = (a7 + 1 - k).toNat) (j0 := (a7 + 1).toNat)
  ⟨0, .nilslice, (zh (HSub.refl h)), GrwI.nil' (zh (HSub.refl h)), by simp [AV.ids], by simp, by exact ze, by exact ze, rfl, rfl, rfl, rfl, rfl, by omega, by simp⟩ ?_
 rintro j t H ⟨k, pv, s1, A, hid, hz, g0, g1, e0, e2, e3, e4, e5, hk, hj⟩
 refine zs2 @e0 @e5 ?_
 refine jaa.eq (S7 _ s1) ?_
 refine zs1 @e5 ?_
 refine Br.by (fun c => ?_) (fun c => ?_)
 ·have pl := jdu (1 + a6) k
  have ps := jjx (1 + a6) k
  have pone := A.ri.one
  have pcells := A.ri.cells
  have hk2 : k ≤ 3 := by omega
  have ap := fun (H' : Heap) (hH : HSub H H') => A.app (x := 1 + a6 + 4 * (k : Nat)) H' hH (by omega)
  have Ac := A.snoc (x := 1 + a6 + 4 * (k : Nat)) (HSub.push1 H (.cells [.int .i64 (1 + a6 + 4 * (k : Nat))] true 0)) (by omega)
  rw [← ps] at Ac
  have nn1 : h.size + 1 ∉ pv.ids := fun q => by have := hid _ q; omega
  have nn0 : h.size ∉ pv.ids := fun q => by have := hid _ q; omega
  have q1 : (snocH (H.push (.cells [.int .i64 (1 + a6 + 4 * (k : Nat))] true 0)) none pv 1 (ints (prnK (1 + a6) (k + 1)))).get (h.size + 1) = some (.cells [.int .i64 (5 + a0), .int .i64 (1 + a1), .int .i64 (1 + a2), .int .i64 2, .int .i64 (1 + a3), .int .i64 (1 + a3 + a5), .int .i64 a4, pv] true 0) := (jln (by simp only [Heap.size_push]; omega) nn1).trans ((jav (by omega)).trans g1)
  have q0 : (snocH (H.push (.cells [.int .i64 (1 + a6 + 4 * (k : Nat))] true 0)) none pv 1 (ints (prnK (1 + a6) (k + 1)))).get h.size = some (.cells [.int .i64 0, .int .i64 0, .int .i64 0, .int .i64 0, .int .i64 0, .int .i64 0, .int .i64 0, .nilslice] true 0) := (jln (by simp only [Heap.size_push]; omega) nn0).trans ((jav (by omega)).trans g0)
  have qz : (snocH (H.push (.cells [.int .i64 (1 + a6 + 4 * (k : Nat))] true 0)) none pv 1 (ints (prnK (1 + a6) (k + 1)))).size = H.size + 1 + 1 := jmE
  simp -implicitDefEqProofs (disch := first | exact zd | fail) only [↓wpPre, jbb, jbc, Int.reduceToNat, Int.reducePow, Int.reduceMul, Int.reduceAdd, Int.reduceSub, Int.reduceNeg, Nat.reduceAdd, Nat.reduceMul, Nat.reducePow, Int.reduceLT, Int.reduceLE, Int.reduceEq, Nat.reduceEqDiff, e3, e4, e5, g1, jby, jgo, ap, ← ps]
  generalize hT : snocH (H.push (.cells [.int .i64 (1 + a6 + 4 * (k : Nat))] true 0)) none pv 1 (ints (prnK (1 + a6) (k + 1))) = T at *
  refine zs8 @q0 @q1 @qz @e0 @e2 @e3 @e4 @e5 ?_
  have idn : ∀ i ∈ (AV.slice (H.size + 1) 0 ((prnK (1 + a6) k).length + 1) (.unk 0)).ids, i = H.size + 1 := fun i hi => by simpa [AV.ids] using hi
  have Ac2 := Ac.putNe (i := h.size + 1) (b := .cells [.int .i64 (5 + a0), .int .i64 (1 + a1), .int .i64 (1 + a2), .int .i64 2, .int .i64 (1 + a3), .int .i64 (1 + a3 + a5), .int .i64 a4, .slice (H.size + 1) 0 ((prnK (1 + a6) k).length + 1) (.unk 0)] true 0) (by omega) (fun j hj => by have := idn j hj; omega)
  exact ⟨_, ⟨k + 1, _, Ac2.sub, Ac2, fun i hi => by have := idn i hi; omega, by omega, rfl, by simp, by omega, rfl⟩, by omega⟩
 ·have ek : (a7 + 1).toNat = k := by omega
  rw [ek]
  have pone := A.ri.one
  have pcells := A.ri.cells
  refine zs4 @e2 @e3 @g0 @g1 ?_
  exact ⟨(zh s1), pv, rfl, (A.putNe (by omega) (fun j hj => by have := hid j hj; omega)).ri, fun j hj => by have := hid j hj; omega⟩
theorem jkJ (hC : Has C T235) {v : AV} {l : List Int} {h : Heap} (hl : RI h v l) (hx : ∀ x ∈ l, In64 x) : ACalls C 235 [v] h (fun r h' => HSub h h' ∧ PlI h' r (planOf l)) :=
 (jmF hC hl hx).mono fun r h' q => ⟨q.1, by obtain ⟨vp, e, B, _⟩ := q.2; exact ⟨vp, e, B⟩⟩
end
end Go.Ae
namespace Go.Ae
def jbA (p : PlanP) (k : Nat) (l : List Int) : EmitP := { jdU p l with prn := p.prns.getD k 0 }
section
variable {C : Ctx}
set_option maxHeartbeats 4000000 in
set_option maxRecDepth 20000 in
theorem jfB (hC : Has C T236) {v w : AV} {p : PlanP} {l : List Int} {u0 : Nat} {h : Heap} (hp : PlI h w p) (pn : p.numsOk) (hp0 : u0 < p.prns.length) (h64 : p.ok64) (hl : RI h v l) (hx : ∀ x ∈ l, In64 x) :
  ACalls C 236 [w, .int .i64 (u0 : Nat), v] h (fun r h' => HSub h h' ∧ ∃ vb, r = .agg [.int .i64 (jbA p u0 l).prn, .int .i64 (jbA p u0 l).dl, .int .i64 (jbA p u0 l).rt, .int .u32 (jbA p u0 l).st, .int .u32 (jbA p u0 l).ph, .int .i64 (jbA p u0 l).amp, .int .i64 (jbA p u0 l).ba, vb] ∧ RI h' vb (jbA p u0 l).bits ∧ ∀ i ∈ vb.ids, h.size ≤ i) := by
 have hlt := hl.lt
 obtain ⟨vp, rfl, R⟩ := hp
 have v1 := R.one
 have plt := R.lt
 have sz := jbn pn
 have hN := jcS pn.1
 have hlc := jbO pn.1
 have pm := pn.2.2.2.2
 have pbb := pn.2.2.1
 have po := pn.2.1
 have eN1 : ((lenN p.d + 1 : Nat) : Int) - 1 = lenN p.d := by omega
 have es : (lenN p.d : Int) * p.o = p.size := rfl
 have S := fun (i : Nat) (n : Int) (hn : 1 ≤ n ∧ n ≤ 9223372036854775807) h1 (q : HSub h h1) => jjw (zu hC T45) (i := i) (hl.mono q) hx hn
 have T0 := fun h1 => jdN (h := h1) (x := (u0 : Nat)) (n := (p.prns.length : Int)) (zu hC T23) (by unfold In64; omega) (by omega)
 rw [Int.emod_eq_of_lt (by omega) (by omega)] at T0
 have h0 := jag (l := l) (i := 0) (n := p.size) (by omega)
 have h1 := jag (l := l) (i := 1) (n := 129) (by omega)
 have h2 := jag (l := l) (i := 2) (n := 64) (by omega)
 have h3 := jag (l := l) (i := 3) (n := 67108864) (by omega)
 have h4 := jag (l := l) (i := 4) (n := 64) (by omega)
 have h5 := jag (l := l) (i := 5) (n := p.mx - p.mn + 1) (by omega)
 have h6 := jag (l := l) (i := 6) (n := p.pb) (by omega)
 have S0 := S 0 p.size (by omega)
 have S1 := S 1 129 (by omega)
 have S2 := S 2 64 (by omega)
 have S3 := S 3 67108864 (by omega)
 have S4 := S 4 64 (by omega)
 have S5 := S 5 (p.mx - p.mn + 1) (by omega)
 have S6 := S 6 p.pb (by omega)
 unfold jbA jdU
 dsimp only
 generalize someOf l 0 p.size = a0 at *
 generalize someOf l 1 129 = a1 at *
 generalize someOf l 2 64 = a2 at *
 generalize someOf l 3 67108864 = a3 at *
 generalize someOf l 4 64 = a4 at *
 generalize someOf l 5 (p.mx - p.mn + 1) = a5 at *
 generalize someOf l 6 p.pb = a6 at *
 have R2 := fun b c => R.mono (((HSub.push1 h b).push c).reserve 51)
 have ld := fun b c => (R2 b c).load (k := u0) hp0
 have ix : idxA 1 vp (.int .i64 (u0 : Nat)) = some (elA 1 vp u0) := R.idx (kk := .i64) (k := (u0 : Nat)) ⟨by omega, by omega⟩
 generalize p.prns.getD u0 0 = pr at *
 generalize p.size = z at *
 obtain ⟨pd, o, pb, w, mn, mx, nz, prns⟩ := p
 dsimp only at *
 refine zf hC tab236 ?_; simp only [B236, zB.1]; refine zs5 @R.len @Int.one_mul @hN.2.2 @eN1 @es ?_
 refine jaa.eq (T0 _) ?_
 refine zs6 @ix @ld @Int.one_mul @hN.2.2 @eN1 @es ?_
 refine jaa.eq (S0 _ (zh (HSub.refl h))) ?_
 refine zs ?_
 refine jaa.eq (S1 _ (zh (HSub.refl h))) ?_
 refine zs ?_
 refine jaa.eq (S2 _ (zh (HSub.refl h))) ?_
 refine zs ?_
 refine jaa.eq (S3 _ (zh (HSub.refl h))) ?_
 refine zs ?_
 refine jaa.eq (S4 _ (zh (HSub.refl h))) ?_
 refine zs ?_
 refine jaa.eq (S5 _ (zh (HSub.refl h))) ?_
 refine zs ?_
 refine jaa.eq (S6 _ (zh (HSub.refl h))) ?_
 refine zs1 @Heap.wf ?_
 refine jaA (fun j t h' => ∃ (k : Nat) (bv : AV), GrwI h h' bv (bitK l k) ∧ (∀ i ∈ bv.ids, h.size + 1 + 1 + 49 < i) ∧ h.size + 1 + 1 + 49 < h'.size ∧ h'.get (h.size + 1) = some (.cells [.int .i64 0, .int .i64 0, .int .i64 0, .int .u32 0, .int .u32 0, .int .i64 0, .int .i64 0, .nilslice] true 0) ∧ h'.get (h.size + 1 + 1 + 49) = some (.cells [.int .i64 pr, .int .i64 a0, .int .i64 (a1 - 64), .int .u32 (a2 * 67108864 + a3), .int .u32 (a4 * 67108864), .int .i64 (mn + a5), .int .i64 a6, bv] true 0) ∧ t 2 = v ∧ t 6 = .ptr (h.size + 1) 0 ∧ t 7 = .ptr (h.size + 1 + 1 + 49) 0 ∧ t 8 = .int .i64 ((7 + k : Nat) : Int) ∧ k ≤ min l.length 20 - 7 ∧ j = min l.length 20 - 7 - k) (j0 := min l.length 20 - 7)
  ⟨0, .nilslice, GrwI.nil' (zh (HSub.refl h)), by simp [AV.ids], by simp, by exact ze, by exact ze, rfl, rfl, rfl, rfl, by omega, rfl⟩ ?_
 rintro j t H ⟨k, bv, A, hid, hz, g0, g1, e2, e6, e7, e8, hk, hj⟩
 have bone := A.ri.one
 have hl1 := hl.mono A.sub
 by_cases c : 7 + k < l.length ∧ 7 + k < 20
 ·have c1 : ((7 + k : Nat) : Int) < l.length := by omega
  have c2 : ((7 + k : Nat) : Int) < 20 := by omega
  have pl := jgA l k
  have ps := joU l k
  have hx1 := hx _ (jbq (i := 7 + k) c.1)
  have T1 := fun h1 => jdN (h := h1) (x := l.getD (7 + k) 0) (n := 2) (zu hC T23) hx1 (by omega)
  have ld := (hl.mono (A.sub.reserve 11)).load (k := 7 + k) c.1
  have ix := hl1.idx (kk := .i64) (k := ((7 + k : Nat) : Int)) ⟨by omega, by omega⟩
  rw [Int.toNat_natCast] at ix
  generalize hm : l.getD (7 + k) 0 % 2 = m at *
  refine zs10 @e2 @e7 @e8 @hl1.len @gV_u @c1 @c2 @g1 @ix @ld ?_
  refine jaa.eq (T1 _) ?_
  have hsH : HSub H ((H.reserve 11).put (H.size + 7) (.cells [.int .i64 m] true 0)) := ((HSub.refl H).reserve 11).put (by omega) _
  have hkk : H.size ≤ H.size + 8 ∧ H.size + 8 < ((H.reserve 11).put (H.size + 7) (.cells [.int .i64 m] true 0)).size := ⟨by omega, by simp only [Heap.size_put, Heap.size_reserve]; omega⟩
  have ap := A.appS (x := m) _ (H.size + 8) hsH hkk (by omega)
  have gN : ((H.reserve 11).put (H.size + 7) (.cells [.int .i64 m] true 0)).get (H.size + 8) = none := by
   rw [jaB (by omega), Heap.get_reserve]; exact H.wf _ (by omega)
  have Ac := A.snocS (x := m) hsH hkk (by omega)
  rw [← ps] at ap Ac
  have nn1 : h.size + 1 + 1 + 49 ∉ bv.ids := fun q => by have := hid _ q; omega
  have nn0 : h.size + 1 ∉ bv.ids := fun q => by have := hid _ q; omega
  have q1 : (snocH ((H.reserve 11).put (H.size + 7) (.cells [.int .i64 m] true 0)) (some (H.size + 8)) bv 1 (ints (bitK l (k + 1)))).get (h.size + 1 + 1 + 49) = some (.cells [.int .i64 pr, .int .i64 a0, .int .i64 (a1 - 64), .int .u32 (a2 * 67108864 + a3), .int .u32 (a4 * 67108864), .int .i64 (mn + a5), .int .i64 a6, bv] true 0) := (jlb (by omega) nn1).trans ((jaB (by omega)).trans ((Heap.get_reserve _ _ _).trans g1))
  have q0 : (snocH ((H.reserve 11).put (H.size + 7) (.cells [.int .i64 m] true 0)) (some (H.size + 8)) bv 1 (ints (bitK l (k + 1)))).get (h.size + 1) = some (.cells [.int .i64 0, .int .i64 0, .int .i64 0, .int .u32 0, .int .u32 0, .int .i64 0, .int .i64 0, .nilslice] true 0) := (jlb (by omega) nn0).trans ((jaB (by omega)).trans ((Heap.get_reserve _ _ _).trans g0))
  have qz : (snocH ((H.reserve 11).put (H.size + 7) (.cells [.int .i64 m] true 0)) (some (H.size + 8)) bv 1 (ints (bitK l (k + 1)))).size = H.size + 11 := by rw [jmu]; simp only [Heap.size_put, Heap.size_reserve]
  refine zs6 @jby @jgo @ap @gN @ji9 @Heap.wf ?_
  generalize hT : (snocH ((H.reserve 11).put (H.size + 7) (.cells [.int .i64 m] true 0)) (some (H.size + 8)) bv 1 (ints (bitK l (k + 1)))) = T at *
  refine zs7 @q0 @q1 @qz @e2 @e6 @e7 @e8 ?_
  have idn : ∀ i ∈ (AV.slice (H.size + 8) 0 ((bitK l k).length + 1) (.unk 0)).ids, i = H.size + 8 := fun i hi => by simpa [AV.ids] using hi
  have Ac2 := fun b => Ac.putNe (i := h.size + 1 + 1 + 49) (b := b) (by omega) (fun j hj => by have := idn j hj; omega)
  exact ⟨_, ⟨k + 1, _, Ac2 _, fun i hi => by have := idn i hi; omega, by omega, rfl, by omega, by omega, rfl⟩, by omega⟩
 ·have ek : min l.length 20 - 7 = k := by omega
  rw [ek]
  by_cases c1 : ((7 + k : Nat) : Int) < l.length
  ·have c2 : ¬ ((7 + k : Nat) : Int) < 20 := by omega
   refine zs10 @e2 @e6 @e7 @e8 @hl1.len @gV_u @c1 @c2 @g0 @g1 ?_
   exact ⟨A.sub.put (by omega) _, bv, rfl, (A.putNe (by omega) (fun j hj => by have := hid j hj; omega)).ri, fun j hj => by have := hid j hj; omega⟩
  ·refine zs9 @e2 @e6 @e7 @e8 @hl1.len @gV_u @c1 @g0 @g1 ?_
   exact ⟨A.sub.put (by omega) _, bv, rfl, (A.putNe (by omega) (fun j hj => by have := hid j hj; omega)).ri, fun j hj => by have := hid j hj; omega⟩
end
end Go.Ae
namespace Go.Ae
theorem joW {p : PlanP} {e : EmitP} {n : Int} (h : emitErr p e = 0) (hn : -10000000 ≤ n ∧ n ≤ 10000000) : madeErr p e n = 0 := by
 unfold madeErr
 rw [if_pos h, if_neg (by omega)]
section
variable {C : Ctx}
end
end Go.Ae
namespace Go.Ae
def alI (p : PlanP) (e : EmitP) (a k : Int) : Prop := e.dl + k * p.size + k * e.rt / 1024 - a < p.o ∧ a - (e.dl + k * p.size + k * e.rt / 1024) < p.o
instance (p : PlanP) (e : EmitP) (a k : Int) : Decidable (alI p e a k) := by unfold alI; exact inferInstance
section
variable {C : Ctx}
end
end Go.Ae
