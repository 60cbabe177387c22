/- Regions that draw their order: sound. -/
import Derived.Test.YtbmoggkjijnajaaAeDraw
namespace Go.Ae

section
variable {C : Ctx} {keep : Keep} {base : Nat} {nt : Nat} {ops : Array Oper}

theorem mask_fold (f : Edge → Nat) (x : Nat) : ∀ (l : List Edge) (s : Nat), (l.foldl (fun s e => if Region.binds .any e then s ||| 2 ^ e.on ||| f e else s) s).testBit x = true →
    s.testBit x = true ∨ ∃ e ∈ l, Region.binds .any e = true ∧ (e.on = x ∨ (f e).testBit x = true)
  | [], s, h => .inl h
  | e :: l, s, h => by
    rcases mask_fold f x l _ h with h | ⟨e', he, hb, hx⟩
    · dsimp only at h
      split at h
      · rename_i hb
        simp only [Nat.testBit_or, Bool.or_eq_true, Nat.testBit_two_pow, decide_eq_true_eq] at h
        rcases h with (h | h) | h
        · exact .inl h
        · exact .inr ⟨e, by simp, hb, .inl h⟩
        · exact .inr ⟨e, by simp, hb, .inr h⟩
      · exact .inl h
    · exact .inr ⟨e', by simp [he], hb, hx⟩

theorem mask_keep : ∀ (os : List Oper) (acc : List Nat) (i : Nat), i < acc.length → (os.foldl maskStep acc).getD i 0 = acc.getD i 0
  | [], acc, i, h => rfl
  | o :: os, acc, i, h => by
    simp only [List.foldl_cons]
    rw [mask_keep os _ i (by simp [maskStep]; omega)]
    simp only [maskStep, List.getD_eq_getElem?_getD]
    rw [List.getElem?_append_left h]

theorem mask_list (x : Nat) : ∀ (os : List Oper) (acc : List Nat) (j : Nat) (o : Oper), acc.length ≤ j → os[j - acc.length]? = some o → ((os.foldl maskStep acc).getD j 0).testBit x = true →
    ∃ e ∈ o.after.toList, Region.binds .any e = true ∧ (e.on = x ∨ ((os.foldl maskStep acc).getD e.on 0).testBit x = true)
  | [], acc, j, o, hj, ho, h => by simp at ho
  | p :: os, acc, j, o, hj, ho, h => by
    simp only [List.foldl_cons] at h ⊢
    have hlen : (maskStep acc p).length = acc.length + 1 := by simp [maskStep]
    rcases Nat.lt_or_ge acc.length j with hlt | hge
    · refine mask_list x os _ j o (by omega) ?_ h
      rw [hlen]
      rw [show j - acc.length = (j - (acc.length + 1)) + 1 from by omega] at ho
      simpa using ho
    · have hj' : j = acc.length := by omega
      subst hj'
      simp only [Nat.sub_self, List.getElem?_cons_zero, Option.some.injEq] at ho
      subst ho
      rw [mask_keep os _ _ (by omega)] at h
      simp only [maskStep, List.getD_eq_getElem?_getD] at h
      rw [List.getElem?_append_right (Nat.le_refl _)] at h
      simp only [Nat.sub_self, List.getElem?_cons_zero, Option.getD_some] at h
      rcases mask_fold _ x _ _ h with h | ⟨e, he, hb, hx⟩
      · simp at h
      · refine ⟨e, he, hb, ?_⟩
        rcases hx with hx | hx
        · exact .inl hx
        · right
          have hlt : e.on < acc.length := by
            rcases Nat.lt_or_ge e.on acc.length with q | q
            · exact q
            · simp [List.getElem?_eq_none q] at hx
          rw [mask_keep os _ _ (by omega)]
          simp only [maskStep, List.getD_eq_getElem?_getD]
          rw [List.getElem?_append_left hlt]
          simpa using hx

theorem masks_spec {j x : Nat} {o : Oper} (ho : ops[j]? = some o) (h : ((masks ops).getD j 0).testBit x = true) :
    ∃ e ∈ o.after, Region.binds .any e = true ∧ (e.on = x ∨ ((masks ops).getD e.on 0).testBit x = true) := by
  obtain ⟨e, he, hb, hx⟩ := mask_list x ops.toList [] j o (Nat.zero_le _) (by simpa using ho) h
  exact ⟨e, by simpa using he, hb, hx⟩

/-- Of two items, the earlier one first. -/
def Row (ms : List Nat) (x y : DItem) : Prop := x.k ≠ y.k ∧ ((ms.getD y.k 0).testBit x.k = true ∨ SwapOk x y)

theorem itemsOf_mem {ms : List Nat} {os : List AOper} : ∀ {ys ahead : List Nat} {p : Nat × List Nat}, p ∈ itemsOf ms os ahead ys → p.1 ∈ ys ∧ ∃ ahead', (∀ a ∈ ahead, a ∈ ahead') ∧ p.2 = checksOf ms os ahead' p.1
  | [], _, _, h => by cases h
  | y :: ys, ahead, p, h => by
    simp only [itemsOf, List.mem_cons] at h
    rcases h with rfl | h
    · exact ⟨by simp, ahead, fun _ => id, rfl⟩
    · obtain ⟨h1, a', h2, h3⟩ := itemsOf_mem h
      exact ⟨by simp [h1], a', fun a ha => h2 a (by simp [ha]), h3⟩

theorem nodupB_spec : ∀ {l : List Nat}, nodupB l = true → l.Pairwise (· ≠ ·)
  | [], _ => .nil
  | x :: xs, h => by
    simp only [nodupB, Bool.and_eq_true, Bool.not_eq_true', List.contains_eq_mem, decide_eq_false_iff_not] at h
    refine .cons (fun y hy e => h.1 (e ▸ hy)) (nodupB_spec h.2)

theorem rows_ok {ms : List Nat} {os : List AOper} {cks : List Nat} : ∀ (ys ahead : List Nat), pairsB ms os ys = true → ys.Pairwise (· ≠ ·) → (∀ a ∈ ahead, a ∉ ys) → (∀ p ∈ itemsOf ms os ahead ys, ∀ c ∈ p.2, c ∈ cks) →
    ((itemsOf ms os ahead ys).map fun (p : Nat × List Nat) => ({ k := p.1, mem := cks.contains p.1, ck := p.2, o := os.getD p.1 default } : DItem)).Pairwise (Row ms)
  | [], _, _, _, _, _ => .nil
  | y :: ys, ahead, hp, hn, ha, hc => by
    simp only [pairsB, Bool.and_eq_true, List.all_eq_true] at hp
    have hn1 := List.pairwise_cons.1 hn
    simp only [itemsOf, List.map_cons]
    refine .cons ?_ (rows_ok ys (ahead ++ [y]) hp.2 hn1.2 ?_ fun p hpp => hc p (by simp [itemsOf, hpp]))
    · intro d hd
      obtain ⟨p, hpm, rfl⟩ := List.mem_map.1 hd
      obtain ⟨h1, ahead', h2, h3⟩ := itemsOf_mem hpm
      have hya : y ∈ ahead' := h2 y (by simp)
      refine ⟨hn1.1 _ h1, ?_⟩
      have hpair := hp.1 _ h1
      simp only [Bool.or_eq_true] at hpair
      rcases hpair with hm | hpair
      · exact .inl hm
      · cases hmm : (ms.getD p.1 0).testBit y with
        | true => exact .inl rfl
        | false =>
          right
          simp only [pairB, Bool.and_eq_true, bne_iff_ne] at hpair
          obtain ⟨⟨⟨hap, _⟩, _⟩, hcl⟩ := hpair
          have hck : (if cls (os.getD y default).op == 2 then cls (os.getD p.1 default).op == 5 else if cls (os.getD p.1 default).op == 2 then cls (os.getD y default).op == 1 else !autoB (cls (os.getD y default).op) (cls (os.getD p.1 default).op)) = true → y ∈ p.2 := by
            intro hq
            rw [h3]
            simp only [checksOf, List.mem_filter, Bool.and_eq_true]
            exact ⟨hya, by rw [hmm]; rfl, hq⟩
          refine ⟨apartB_spec hap, hn1.1 _ h1, ?_, ?_⟩
          · intro hz
            simp only [checksOf, List.mem_filter] at hz
            exact ha _ hz.1 (by simp [h1])
          · dsimp only
            by_cases cx : cls (os.getD y default).op = 2
            · right; right
              refine ⟨cx, ?_⟩
              simp only [cx, beq_self_eq_true, if_true, beq_iff_eq] at hcl
              exact hcl
            · by_cases cy : cls (os.getD p.1 default).op = 2
              · right; left
                refine ⟨cy, ?_, fun c1 => ?_⟩
                · have e1 : (cls (os.getD y default).op == 2) = false := by simpa using cx
                  simp only [e1, cy, beq_self_eq_true, if_true, Bool.false_eq_true, if_false, decide_eq_true_eq] at hcl
                  exact hcl
                · have := hck (by
                    have e1 : (cls (os.getD y default).op == 2) = false := by simpa using cx
                    simp only [e1, cy, beq_self_eq_true, if_true, Bool.false_eq_true, if_false, c1]; rfl)
                  exact ⟨this, by simpa using hc p (by simp [itemsOf, hpm]) y this⟩
              · left
                refine ⟨cx, cy, ?_⟩
                cases hau : autoB (cls (os.getD y default).op) (cls (os.getD p.1 default).op) with
                | true => exact .inl rfl
                | false =>
                  right
                  have := hck (by
                    have e1 : (cls (os.getD y default).op == 2) = false := by simpa using cx
                    have e2 : (cls (os.getD p.1 default).op == 2) = false := by simpa using cy
                    simp only [e1, e2, Bool.false_eq_true, if_false, hau]; rfl)
                  refine ⟨this, ?_⟩
                  simpa using hc p (by simp [itemsOf, hpm]) y this
    · intro a haa hay
      rcases List.mem_append.1 haa with h | h
      · exact ha a h (by simp [hay])
      · simp only [List.mem_singleton] at h
        subst h
        exact hn1.1 _ hay rfl

/-- What is known of the items of a region. -/
structure Items (C : Ctx) (nt : Nat) (ops : Array Oper) (n : Nat) (l : List DItem) : Prop where
  src : ∀ d ∈ l, Src C nt ops d
  rows : l.Pairwise (Row (masks ops))
  cover : ∀ k, k < ops.size → ∃ d ∈ l, d.k = k
  back : ∀ (i : Nat) o, ops[i]? = some o → ∀ e ∈ o.after, Region.binds .any e = true → e.on < i
  room : ∀ d ∈ l, 4 ≤ cls d.o.op → n = ops.size
  len : l.length ≤ ops.size

theorem greedy_len (ms : List Nat) (os : List AOper) : ∀ (fuel listed : Nat), (greedy ms os fuel listed).length ≤ fuel
  | 0, _ => Nat.le_refl _
  | fuel + 1, listed => by
    unfold greedy
    split
    · simp only [List.length_cons]; exact Nat.succ_le_succ (greedy_len ms os fuel _)
    · exact Nat.zero_le _

theorem drawItems_spec {n : Nat} {l : List DItem} (h : drawItems C.P C.inv nt ops = some (n, l)) : Items C nt ops n l := by
  unfold drawItems at h
  dsimp only at h
  split at h
  · rename_i hc
    obtain ⟨h1, h2, h3, h4, h5⟩ := hc
    simp only [Option.some.injEq, Prod.mk.injEq] at h
    obtain ⟨hn, hl⟩ := h
    generalize hos : ops.toList.map (lowerOper C.P C.inv nt ops) = os at h1 h2 h3 h5 hn hl
    generalize hord : greedy (masks ops) os os.length 0 = ord at h1 h2 h3 h5 hl
    have hlen : os.length = ops.size := by rw [← hos]; simp
    have hget : ∀ k, k < ops.size → ∃ o, ops[k]? = some o ∧ lowerOper C.P C.inv nt ops o = os.getD k default := by
      intro k hk
      refine ⟨ops[k], by simp [hk], ?_⟩
      rw [← hos]
      simp [hk]
    have keys : ∀ (ys ahead : List Nat), (itemsOf (masks ops) os ahead ys).map (·.1) = ys := by
      intro ys
      induction ys with
      | nil => intro a; rfl
      | cons y ys ih => intro a; simp [itemsOf, ih]
    have hmem : ∀ d ∈ l, d.k ∈ ord ∧ d.o = os.getD d.k default := by
      intro d hd
      rw [← hl] at hd
      obtain ⟨p, hp, rfl⟩ := List.mem_map.1 hd
      exact ⟨(itemsOf_mem hp).1, rfl⟩
    have hle : ord.length ≤ os.length := by rw [← hord]; exact greedy_len _ _ _ _
    refine ⟨fun d hd => ?_, ?_, fun k hk => ?_, fun i o ho e he hb => ?_, fun d hd hcl => ?_, ?_⟩
    · obtain ⟨q1, q2⟩ := hmem d hd
      have hlt : d.k < ops.size := by
        have := List.all_eq_true.1 h3 _ q1
        rw [← hlen]; simpa using this
      obtain ⟨o, ho, hlo⟩ := hget d.k hlt
      exact ⟨o, ho, by rw [hlo, q2]⟩
    · rw [← hl]
      refine rows_ok ord [] h5 (nodupB_spec h2) (by simp) fun p hp c hc => ?_
      exact List.mem_flatMap.2 ⟨p, hp, hc⟩
    · have := List.all_eq_true.1 h1 k (by simp [hlen, hk])
      have hk' : k ∈ ord := by simpa using this
      rw [← keys ord []] at hk'
      obtain ⟨p, hp, rfl⟩ := List.mem_map.1 hk'
      rw [← hl]
      exact ⟨_, List.mem_map.2 ⟨p, hp, rfl⟩, rfl⟩
    · unfold backB at h4
      have := List.all_eq_true.1 h4 (o, i) (by
        rw [List.mem_zipIdx_iff_getElem?]
        simpa using ho)
      have := List.all_eq_true.1 this e (by simpa using he)
      simpa [hb] using this
    · rw [← hn, if_pos]
      · exact hlen
      · obtain ⟨q1, q2⟩ := hmem d hd
        have hlt : d.k < os.length := by simpa using List.all_eq_true.1 h3 _ q1
        refine List.any_eq_true.2 ⟨d.o, ?_, by simpa using hcl⟩
        rw [q2]
        simp [hlt]
    · rw [← hl, List.length_map, ← hlen]
      have := congrArg List.length (keys ord [])
      rw [List.length_map] at this
      omega
  · cases h

theorem ready_some {listed : Array Bool} (hback : ∀ (i : Nat) o, ops[i]? = some o → ∀ e ∈ o.after, Region.binds .any e = true → e.on < i) (hsz : listed.size = ops.size) (hr : Region.ready .any ops listed = []) :
    ∀ k, k < ops.size → listed.getD k true = true := by
  intro k
  induction k using Nat.strongRecOn with
  | _ k ih =>
    intro hk
    cases hg : listed.getD k true with
    | true => rfl
    | false =>
      exfalso
      have : k ∈ Region.ready .any ops listed := mem_ready.2 ⟨hg, ops[k], by simp [hk], fun e he hb => by
        have hlt := hback k ops[k] (by simp [hk]) e he hb
        have := ih e.on hlt (by omega)
        have hlt' : e.on < listed.size := by omega
        simp only [Array.getD_eq_getD_getElem?, hlt', Array.getElem?_eq_getElem, Option.getD_some] at this ⊢
        exact this⟩
      rw [hr] at this
      cases this

theorem draw_any (fenv : Env) (rd : Option Nat) {K : St → Prop} {Q : Exit → Act → World → Prop} {W : List Nat} (hback : ∀ (i : Nat) o, ops[i]? = some o → ∀ e ∈ o.after, Region.binds .any e = true → e.on < i) :
    ∀ (fuel : Nat) (ds : List DItem) (listed : Array Bool) (acc : Acc) (env : Env) (st : St) (a : Act) (w : World), ds.length ≤ fuel → (∀ d ∈ ds, Src C nt ops d ∧ ∀ q, d.o.dst = some q → q ∈ W) → ds.Pairwise (Row (masks ops)) →
      (∀ k, k < ops.size → (listed.getD k true = false ↔ ∃ d ∈ ds, d.k = k)) → listed.size = ops.size →
      (∀ j, j < ops.size → listed.getD j false = true → ∀ x, ((masks ops).getD j 0).testBit x = true → listed.getD x false = true) → (∀ d ∈ ds, cls d.o.op = 5 → base + d.k < st.h.size) →
      wpD C base ds acc K st → Sim C keep nt env st a w →
      (∀ env' st' a' w', Far C keep nt env st w env' st' a' w' → (∀ s, s ∉ W → st'.t s = st.t s) → (∀ i, i < base → i < st.h.size → (st'.h.get i).isSome = (st.h.get i).isSome) → K st' → Q .normal a' w') →
      wpAnyIn (fen fenv rd) 0 C.P .any ops Q fuel listed a w := by
  intro fuel
  induction fuel with
  | zero =>
    intro ds listed acc env st a w hf hsrc hrow hun hsz hdown hroom h S hQ
    have hnil : ds = [] := List.eq_nil_of_length_eq_zero (by omega)
    subst hnil
    refine ⟨?_, hQ env st a w (Far.refl S) (fun _ _ => rfl) (fun _ _ _ => rfl) h⟩
    cases hr : Region.ready .any ops listed with
    | nil => rfl
    | cons i is =>
      have hi : i ∈ Region.ready .any ops listed := by rw [hr]; simp
      obtain ⟨h1, o, ho, _⟩ := mem_ready.1 hi
      obtain ⟨d, hd, _⟩ := (hun i (Array.getElem?_eq_some_iff.1 ho).1).1 h1
      cases hd
  | succ fuel ih =>
    intro ds listed acc env st a w hf hsrc hrow hun hsz hdown hroom h S hQ
    refine ⟨fun hr => ?_, fun i hi => ?_⟩
    · have hall := ready_some hback hsz hr
      cases ds with
      | nil => exact hQ env st a w (Far.refl S) (fun _ _ => rfl) (fun _ _ _ => rfl) h
      | cons d ds =>
        obtain ⟨⟨o, ho, _⟩, _⟩ := hsrc d (by simp)
        have hlt := (Array.getElem?_eq_some_iff.1 ho).1
        have := (hun d.k hlt).2 ⟨d, by simp, rfl⟩
        rw [hall d.k hlt] at this
        cases this
    · obtain ⟨hun1, o, ho, hafter⟩ := mem_ready.1 hi
      have hlt := (Array.getElem?_eq_some_iff.1 ho).1
      obtain ⟨d, hd, hdk⟩ := (hun i hlt).1 hun1
      obtain ⟨pre, post, rfl⟩ := List.append_of_mem hd
      have hpw := List.pairwise_append.1 hrow
      have hpost := List.pairwise_cons.1 hpw.2.1
      have hsd := hsrc d (by simp)
      have hcan : Can C st := ⟨⟨keep, env, w, S.rel⟩, S.bel⟩
      have hlisted : ∀ x, ((masks ops).getD i 0).testBit x = true → listed.getD x false = true := by
        intro x hx
        obtain ⟨e, he, hb, hx⟩ := masks_spec ho hx
        have hl := hafter e he hb
        rcases hx with rfl | hx
        · exact hl
        · have := hback i o ho e he hb
          exact hdown e.on (by omega) hl x hx
      have hb := bubble hsd.1 (post := post) (K := K) (base := base) pre acc st (fun x hx => by
        refine ⟨(hsrc x (by simp [hx])).1, ?_⟩
        rcases (hpw.2.2 x hx d (by simp)).2 with hm | hs
        · exfalso
          rw [hdk] at hm
          have h1 := hlisted _ hm
          obtain ⟨⟨ox, hox, _⟩, _⟩ := hsrc x (by simp [hx])
          have hxl := (Array.getElem?_eq_some_iff.1 hox).1
          have h2 := (hun x.k hxl).2 ⟨x, by simp [hx], rfl⟩
          have hxl' : x.k < listed.size := by omega
          simp only [Array.getD_eq_getD_getElem?, hxl', Array.getElem?_eq_getElem, Option.getD_some] at h1 h2
          rw [h1] at h2; cases h2
        · exact hs) hcan (hroom d (by simp)) h
      have hstep : stepD C base d acc (fun acc' st' => wpD C base (pre ++ post) acc' K st') st := hb
      obtain ⟨o', ho', hlo⟩ := hsd.1
      rw [hdk, ho] at ho'
      cases ho'
      -- the rest
      have rest : ∀ env' st' a' w' acc', Far C keep nt env st w env' st' a' w' → (∀ s, d.o.dst ≠ some s → st'.t s = st.t s) → (∀ i, i < base → i < st.h.size → (st'.h.get i).isSome = (st.h.get i).isSome) →
          wpD C base (pre ++ post) acc' K st' → wpAnyIn (fen fenv rd) 0 C.P .any ops Q fuel (listed.setIfInBounds i true) a' w' := by
        intro env' st' a' w' acc' F hag hsame hw
        refine ih (pre ++ post) _ acc' env' st' a' w' ?_ ?_ ?_ ?_ (by simp [hsz]) ?_ ?_ hw F.sim ?_
        · simp only [List.length_append, List.length_cons] at hf ⊢; omega
        · intro x hx
          refine hsrc x ?_
          simp only [List.mem_append, List.mem_cons] at hx ⊢
          rcases hx with hx | hx
          · exact .inl hx
          · exact .inr (.inr hx)
        · refine List.pairwise_append.2 ⟨hpw.1, hpost.2, fun x hx z hz => hpw.2.2 x hx z (by simp [hz])⟩
        · intro k hk
          by_cases e : k = i
          · subst e
            constructor
            · intro hx
              have hks : k < listed.size := by omega
              simp [hks] at hx
            · rintro ⟨d', hd', he⟩
              exfalso
              rcases List.mem_append.1 hd' with hm | hm
              · exact (hpw.2.2 d' hm d (by simp)).1 (by rw [he, hdk])
              · exact (hpost.1 d' hm).1 (by rw [he, hdk])
          · rw [getD_set_ne true (Ne.symm e), hun k hk]
            constructor
            · rintro ⟨d', hd', he⟩
              simp only [List.mem_append, List.mem_cons] at hd' ⊢
              rcases hd' with hm | rfl | hm
              · exact ⟨d', .inl hm, he⟩
              · exact absurd (he.symm.trans hdk) e
              · exact ⟨d', .inr hm, he⟩
            · rintro ⟨d', hd', he⟩
              simp only [List.mem_append, List.mem_cons] at hd' ⊢
              rcases hd' with hm | hm
              · exact ⟨d', .inl hm, he⟩
              · exact ⟨d', .inr (.inr hm), he⟩
        · intro j hj hl x hx
          by_cases e : j = i
          · subst e; exact getD_set_true (hlisted x hx)
          · rw [getD_set_ne false (Ne.symm e)] at hl
            exact getD_set_true (hdown j hj hl x hx)
        · intro x hx hcl
          have := hroom x (by simp only [List.mem_append, List.mem_cons] at hx ⊢; rcases hx with hx | hx; exact .inl hx; exact .inr (.inr hx)) hcl
          exact Nat.lt_of_lt_of_le this F.grow.size
        · intro env2 st2 a2 w2 F2 hag2 hs2 hk2
          refine hQ env2 st2 a2 w2 (F.trans F2) (fun s hs => ?_) (fun q hq hq2 => ?_) hk2
          · rw [hag2 s hs, hag s]
            intro e; exact hs (hsd.2 s e)
          · rw [hs2 q hq (Nat.lt_of_lt_of_le hq2 F.grow.size), hsame q hq hq2]
      unfold wpOpIn
      rw [ho]
      dsimp only
      rcases lowerOper_spec (P := C.P) (inv := C.inv) (nt := nt) (ops := ops) (o := o) with ⟨s, hs⟩ | ⟨g, hg, hge, hde, hdo⟩
      · exfalso
        rw [hs] at hlo
        have hgo : gOn d.o.guard st.t = true := by rw [← hlo]; rfl
        rw [stepD_op (by rw [← hlo]; simp [cls]) hgo] at hstep
        obtain ⟨v, h', _, hv, _⟩ := hstep
        rw [← hlo] at hv
        simp [aOp, pureA] at hv
      · have hguard : guardP g st.t (wpOp C (some (base + d.k)) d.o (fun st' => ∃ acc', wpD C base (pre ++ post) acc' K st') st) (wpD C base (pre ++ post) acc K (st.put d.o.dst .undef)) := by
          rw [hlo] at hge
          rw [guardP_iff, ← hge]
          cases hon : gOn d.o.guard st.t with
          | false =>
            rw [if_neg (by simp)]
            rw [stepD_off hon] at hstep
            rw [put_eq']
            exact hstep
          | true =>
            rw [if_pos rfl]
            by_cases h2 : cls d.o.op = 2
            · cases hop : d.o.op <;> rw [hop] at h2 <;> simp [cls] at h2
              rw [stepD_call hop hon] at hstep
              unfold wpOp
              simp only [hop, put_eq]
              exact callP_mono (fun r h' q => ⟨acc, q.2⟩) hstep
            · rw [stepD_op h2 hon] at hstep
              obtain ⟨v, h', _, hv, hw⟩ := hstep
              unfold wpOp
              dsimp only
              split
              · rename_i f args hop; rw [hop] at h2; simp [cls] at h2
              · rw [hv]
                simp only [put_eq]
                exact ⟨_, hw⟩
        rcases guard_sound S hg hguard with ⟨hw, hp⟩ | ⟨hw, hq⟩
        · rw [if_pos hw]
          refine Oper.wpIn_mono ?_ (op_sound S fenv rd hlo hp)
          rintro a' w' ⟨env', st', F, h1, h2, acc', h3⟩
          exact rest env' st' a' w' acc' F h1 (fun q hq hq2 => h2 q hq2 (by intro e; cases e; omega)) h3
        · rw [if_neg (by rw [hw]; simp)]
          refine ⟨fun f _ => fen_fn fenv rd f, ?_⟩
          rw [hlo] at hde
          rw [hde] at hq
          have F := S.put (v := AV.undef) hdo S.rel (KeepW.refl _ _) (Ext.refl _ _) (HGrow.refl _) trivial
          have hst : St.put { st with h := st.h } o.dst AV.undef = st.put o.dst AV.undef := rfl
          rw [hst] at F
          refine rest env _ _ w acc F (fun s hs => ?_) (fun _ _ _ => ?_) hq
          · rw [put_eq', hde] at *; exact updO_other hs
          · rw [put_eq']

theorem draw_sound (fenv : Env) (rd : Option Nat) : DrawOk C keep nt fenv rd := by
  intro id ops n l K env st a w hd h S hrd
  have I := drawItems_spec hd
  refine wpIn_region_any C.mixed ?_
  have hst : ∃ st0 : St, (if n = 0 then st else { st with h := st.h.reserve n }) = st0 ∧ st0.t = st.t ∧ st0.m = st.m ∧ st0.h.get = st.h.get ∧ st0.h.size = st.h.size + n := by
    by_cases hn : n = 0
    · exact ⟨st, by rw [if_pos hn], rfl, rfl, rfl, by omega⟩
    · exact ⟨{ st with h := st.h.reserve n }, by rw [if_neg hn], rfl, rfl, rfl, rfl⟩
  obtain ⟨st0, e0, et, em, eg, es⟩ := hst
  have h' : wpD C st.h.size l [] K st0 := by rw [← e0]; exact h
  have hok : ∀ i, st0.h.ok i ↔ st.h.ok i := fun i => by simp only [Heap.ok, eg]
  have hokE : st0.h.ok = st.h.ok := funext fun i => propext (hok i)
  have R0 : Rel C keep env st0.h { w with drawn := w.drawn + 1 } := by
    have R1 : Rel C keep env st.h { w with drawn := w.drawn + 1 } := S.rel.heap_eq rfl
    exact ⟨fun i b hb => R1.lt i b (by rw [← eg]; exact hb), fun i b hb => R1.blk i b (by rw [← eg]; exact hb), fun i j b c hb hc => R1.disj i j b c (by rw [← eg]; exact hb) (by rw [← eg]; exact hc),
      fun i b hb => by rw [hokE]; exact R1.bel i b (by rw [← eg]; exact hb), fun i b hb => R1.kept i b (by rw [← eg]; exact hb), R1.keepLt, fun i b hb => R1.hid i b (by rw [← eg]; exact hb), R1.hidLt⟩
  have S0 : Sim C keep nt env st0 a { w with drawn := w.drawn + 1 } :=
    ⟨S.size, fun s => by rw [et]; exact S.tmps s, fun s => by rw [et, hokE]; exact S.bel s, by rw [em]; exact S.defers, fun i hi => (hok i).2 (S.marks i (by rw [← em]; exact hi)), R0⟩
  refine draw_any fenv rd (base := st.h.size) (W := l.filterMap (·.o.dst)) I.back ops.size l _ [] env st0 a _ ?_ ?_ I.rows ?_ (by simp) ?_ ?_ h' S0 ?_
  · -- as many items as operations
    exact I.len
  · intro d hd
    exact ⟨I.src d hd, fun q hq => List.mem_filterMap.2 ⟨d, hd, hq⟩⟩
  · intro k hk
    simp only [Array.getD_eq_getD_getElem?, Array.getElem?_replicate, hk, if_true, Option.getD_some, true_iff]
    exact I.cover k hk
  · intro j hj hl
    simp [hj] at hl
  · intro d hd hcl
    have := I.room d hd (by omega)
    obtain ⟨o, ho, _⟩ := I.src d hd
    have hlt := (Array.getElem?_eq_some_iff.1 ho).1
    omega
  · intro env' st' a' w' F hag hsame hk
    refine ⟨.normal, rfl, env', st', ⟨F.sim, ⟨F.keepW.os, F.keepW.tape, F.keepW.output, F.keepW.size, F.keepW.block⟩, fun i hi => F.ext i ((hok i).2 hi), ⟨?_, fun i hi => F.grow.same i ((hok i).2 hi)⟩⟩, fun s hs => by rw [hag s hs, et], ⟨?_, fun i hi => ?_⟩, rfl, hk⟩
    · have := F.grow.size; omega
    · have := F.grow.size; omega
    · rw [hsame i hi (by omega), eg]

end
end Go.Ae
