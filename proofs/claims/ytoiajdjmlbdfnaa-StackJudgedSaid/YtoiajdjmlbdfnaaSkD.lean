/- Summaries of the functions that only read. -/
import Derived.Test.YtoiajdjmlbdfnaaSkC
namespace Go.Sx
set_option maxRecDepth 100000

theorem split20 {ws : List Int} (h : 20 ≤ ws.length) : ∃ w0 w1 w2 w3 w4 w5 w6 w7 w8 w9 w10 w11 w12 w13 w14 w15 w16 w17 w18 w19 rest, ws = w0 :: w1 :: w2 :: w3 :: w4 :: w5 :: w6 :: w7 :: w8 :: w9 :: w10 :: w11 :: w12 :: w13 :: w14 :: w15 :: w16 :: w17 :: w18 :: w19 :: rest := by
  rcases ws with _ | ⟨w0, ws⟩
  · simp at h
  rcases ws with _ | ⟨w1, ws⟩
  · simp at h
  rcases ws with _ | ⟨w2, ws⟩
  · simp at h
  rcases ws with _ | ⟨w3, ws⟩
  · simp at h
  rcases ws with _ | ⟨w4, ws⟩
  · simp at h
  rcases ws with _ | ⟨w5, ws⟩
  · simp at h
  rcases ws with _ | ⟨w6, ws⟩
  · simp at h
  rcases ws with _ | ⟨w7, ws⟩
  · simp at h
  rcases ws with _ | ⟨w8, ws⟩
  · simp at h
  rcases ws with _ | ⟨w9, ws⟩
  · simp at h
  rcases ws with _ | ⟨w10, ws⟩
  · simp at h
  rcases ws with _ | ⟨w11, ws⟩
  · simp at h
  rcases ws with _ | ⟨w12, ws⟩
  · simp at h
  rcases ws with _ | ⟨w13, ws⟩
  · simp at h
  rcases ws with _ | ⟨w14, ws⟩
  · simp at h
  rcases ws with _ | ⟨w15, ws⟩
  · simp at h
  rcases ws with _ | ⟨w16, ws⟩
  · simp at h
  rcases ws with _ | ⟨w17, ws⟩
  · simp at h
  rcases ws with _ | ⟨w18, ws⟩
  · simp at h
  rcases ws with _ | ⟨w19, ws⟩
  · simp at h
  exact ⟨_, _, _, _, _, _, _, _, _, _, _, _, _, _, _, _, _, _, _, _, _, rfl⟩

theorem words_call (j : MJ) {ws : List Int} (h : 20 ≤ ws.length) : CallH Go.Proofs.Try.prog 49 [.ptr 0 0 0 0] 2 (hO [some (memS 1 j), some (wordsOb ws)]) (.osl 2 1) 3 (hO [some (memS 1 j), some (wordsOb ws), some (W76 (ws.take 20))]) := by
  obtain ⟨w0, w1, w2, w3, w4, w5, w6, w7, w8, w9, w10, w11, w12, w13, w14, w15, w16, w17, w18, w19, rest, rfl⟩ := split20 h
  exact words_run j w0 w1 w2 w3 w4 w5 w6 w7 w8 w9 w10 w11 w12 w13 w14 w15 w16 w17 w18 w19 rest

def sm49 (args : List V) (s : St) : Option (V × St) :=
  match args with
  | [.ptr n i z o] => match s.H.get n with
    | some (.mem (.cells [.ptr nb bi bz bo, .int .i64 sz, .int .i64 a, .int .i64 b, .int .u64 c, .int .u64 d, .bool e, .int .i64 g]) t none) => match s.H.get nb with
      | some (.mem (.words .u64 ws) t' none) => (chk (decide (i = 0 ∧ z = 0 ∧ o = 0 ∧ bi = 0 ∧ bz = 0 ∧ bo = 0 ∧ sz = 20 ∧ t = 106 ∧ t' = 102))).bind fun _ =>
        (need (decide (20 ≤ ws.length)) s).bind fun s1 => (s1.new (W76 (ws.take 20))).bind fun (m, s2) => some (.osl m 1, s2)
      | _ => none
    | _ => none
  | _ => none

/-- One new block behind, and nothing else: the contract laid into a memory. -/
theorem embed1 {P : Program} {f : FuncId} {ac : List V} {l : List (Option Ob)} {o : Ob} {vc : V} (h : CallH P f ac l.length (hO l) vc (l.length + 1) (hO (l ++ [some o]))) (hall : ∀ m, m < l.length → ∃ o, (l[m]?).join = some o)
    (hobs : obsOK (fun m => Nat.blt m l.length) 0 l = true) (hobs' : obsOK (fun m => Nat.blt m (l.length + 1)) 0 (l ++ [some o]) = true) (hac : liveNames (fun m => Nat.blt m l.length) (ac.map some) = true)
    {s s1 s' : St} {args : List V} {v : V} {k : Nat} {on : Ob} (πl : List Nat) (hlen : πl.length = l.length) (hπ : ∀ m o, (l[m]?).join = some o → s.H.get (πf πl m) = some (o.ren (πf πl))) (hd : πl.Nodup) (hargs : args = ac.map (V.ren (πf πl)))
    (hs1 : Same s s1) (hnew : s1.new on = some (k, s')) (hon : on = o.ren (ext (πf πl) l.length s.nx)) (hv : v = vc.ren (ext (πf πl) l.length s.nx)) : CallOK P f args s v s' := by
  obtain ⟨n1, n2, n3, n4, n5⟩ := new_ok hnew
  rw [blt_fun] at hobs hobs' hac
  have hlt : ∀ (m : Nat) (o : Ob), hO l m = some o → m < l.length := fun m o ho => Nat.lt_of_not_le fun hle => by simp only [hO, List.getElem?_eq_none hle] at ho; cases ho
  refine embed h (by omega) (fun m hm => ?_) (fun m hm => ?_) (fun m hm => ?_) (fun m o' ho => ?_) (fun v hv => ?_) (πf πl) hπ (fun m n hm hn hne => ?_) hargs hv (by rw [n2, hs1.nx]; omega) (fun n => ?_)
  · simp only [hO, List.getElem?_eq_none hm]; rfl
  · obtain ⟨o', ho⟩ := hall m hm
    have := obsOK_ok l 0 hobs m o' ho
    exact ⟨o', ho, this.1, this.2.2⟩
  · simp only [hO, List.getElem?_append_left hm]
  · have := obsOK_ok _ 0 hobs' m o' ho
    exact ⟨this.1, by simpa using this.2.1⟩
  · obtain ⟨i, hi⟩ := List.getElem?_of_mem hv
    exact liveNames_ok _ hac i v (by simp [hi])
  · have hm' : m < πl.length := by omega
    have hn' : n < πl.length := by omega
    simp only [πf, List.getD_eq_getElem?_getD, List.getElem?_eq_getElem hm', List.getElem?_eq_getElem hn', Option.getD_some]
    intro he
    exact hne ((List.getElem_inj hd).1 he)
  · rw [n5, n2, hs1.nx, hs1.H]
    by_cases hn : n = s.nx
    · subst hn
      rw [if_pos rfl, if_pos (by omega)]
      simp [hO, hon]
    · rw [if_neg hn, if_neg (by omega)]

theorem chk_dec {p : Prop} [Decidable p] {u : Unit} (h : chk (decide p) = some u) : p := of_decide_eq_true (chk_some h)

theorem sm49_ok (E : Env) : CfOK Go.Proofs.Try.prog E (fun g args s => if g = 49 then sm49 args s else none) := by
  intro f args s v s' h ho
  by_cases hf : f = 49
  · subst hf
    simp only [if_true] at h
    unfold sm49 at h
    split at h
    · rename_i n i z o
      split at h
      · rename_i nb bi bz bo sz a b c d e g t hn
        split at h
        · rename_i ws t' hb
          obtain ⟨_, h1, h2⟩ := bind_some' h
          obtain ⟨s1, h3, h4⟩ := bind_some' h2
          obtain ⟨⟨m, s2⟩, h5, h6⟩ := bind_some' h4
          cases h6
          obtain ⟨rfl, rfl, rfl, rfl, rfl, rfl, rfl, rfl, rfl⟩ := chk_dec h1
          obtain ⟨n1, n2, n3, n4, n5⟩ := new_ok h5
          have ho1 : Obl s1 := by unfold Obl at ho ⊢; rw [n4] at ho; exact ho
          obtain ⟨hd, hq⟩ := need_ok h3 ho1
          refine ⟨(Lg.of_same hq.1).trans (.new h5), hq.2, ?_, Go.Proofs.Try.call49⟩
          have hne : n ≠ nb := by rintro rfl; rw [hn] at hb; cases hb
          refine embed1 (l := [some (memS 1 ⟨a, b, c, d, e, g⟩), some (wordsOb ws)]) (words_call ⟨a, b, c, d, e, g⟩ (of_decide_eq_true hd)) (fun m hm => ?_) (by kernel_rfl) (by kernel_rfl) (by kernel_rfl) [n, nb] rfl (fun m o ho => ?_) (by simp [hne]) rfl hq.1 h5 rfl ?_
          · match m, hm with
            | 0, _ => exact ⟨_, rfl⟩
            | 1, _ => exact ⟨_, rfl⟩
          · match m, ho with
            | 0, ho => cases ho; exact hn
            | 1, ho => cases ho; exact hb
          · show V.osl m 1 = V.osl _ 1
            rw [n1, hq.1.nx]; rfl
        · cases h
      · cases h
    · cases h
  · simp only [if_neg hf] at h; cases h

def sm99 (args : List V) (s : St) : Option (V × St) :=
  match args with
  | [.agg [.int .i64 top, .int .i64 links, .int .i64 n], .ptr m i z o] => match s.H.get m with
    | some (.mem (.cells [.osl nw es, .int .i64 a, .int .i64 b, .int .u64 c, .int .u64 d, .bool e, .int .i64 g]) t none) => match s.H.get nw with
      | some (.mem (.words .u64 W) t' (some es')) => (chk (decide (i = 0 ∧ z = 0 ∧ o = 0 ∧ top = 2 ∧ links = 4 ∧ es = 1 ∧ es' = 1 ∧ t = 163 ∧ t' = 60))).bind fun _ =>
        (need (decide (W.length = 20 ∧ 0 ≤ n ∧ n ≤ 12)) s).bind fun s1 => (s1.new (outOb (chainL n W))).bind fun (k, s2) => some (.osl k 1, s2)
      | _ => none
    | _ => none
  | _ => none

theorem sm99_ok (E : Env) : CfOK Go.Proofs.Try.prog E (fun g args s => if g = 99 then sm99 args s else none) := by
  intro f args s v s' h ho
  by_cases hf : f = 99
  · subst hf
    simp only [if_true] at h
    unfold sm99 at h
    split at h
    · rename_i top links n m i z o
      split at h
      · rename_i nw es a b c d e g t hm
        split at h
        · rename_i W t' es' hb
          obtain ⟨_, h1, h2⟩ := bind_some' h
          obtain ⟨s1, h3, h4⟩ := bind_some' h2
          obtain ⟨⟨k, s2⟩, h5, h6⟩ := bind_some' h4
          cases h6
          obtain ⟨rfl, rfl, rfl, rfl, rfl, rfl, rfl, rfl, rfl⟩ := chk_dec h1
          obtain ⟨n1, n2, n3, n4, n5⟩ := new_ok h5
          have ho1 : Obl s1 := by unfold Obl at ho ⊢; rw [n4] at ho; exact ho
          obtain ⟨hd, hq⟩ := need_ok h3 ho1
          obtain ⟨hd1, hd2, hd3⟩ := of_decide_eq_true hd
          refine ⟨(Lg.of_same hq.1).trans (.new h5), hq.2, ?_, Go.Proofs.Try.call99⟩
          have hne : m ≠ nw := by rintro rfl; rw [hm] at hb; cases hb
          refine embed1 (l := [some (ref99 ⟨a, b, c, d, e, g⟩), some (W76 W)]) (chain_call ⟨a, b, c, d, e, g⟩ hd1 hd2 hd3) (fun m hm => ?_) (by kernel_rfl) (by kernel_rfl) (by kernel_rfl) [m, nw] rfl (fun q o ho => ?_) (by simp [hne]) rfl hq.1 h5 rfl ?_
          · match m, hm with
            | 0, _ => exact ⟨_, rfl⟩
            | 1, _ => exact ⟨_, rfl⟩
          · match q, ho with
            | 0, ho => cases ho; exact hm
            | 1, ho => cases ho; exact hb
          · show V.osl k 1 = V.osl _ 1
            rw [n1, hq.1.nx]; rfl
        · cases h
      · cases h
    · cases h
  · simp only [if_neg hf] at h; cases h

/-- Nothing new: the contract laid into a memory. -/
theorem embed0 {P : Program} {f : FuncId} {ac : List V} {l : List (Option Ob)} {vc : V} (h : CallH P f ac l.length (hO l) vc l.length (hO l)) (hall : ∀ m, m < l.length → ∃ o, (l[m]?).join = some o)
    (hobs : obsOK (fun m => Nat.blt m l.length) 0 l = true) (hac : liveNames (fun m => Nat.blt m l.length) (ac.map some) = true)
    {s s1 : St} {args : List V} {v : V} (πl : List Nat) (hlen : πl.length = l.length) (hπ : ∀ m o, (l[m]?).join = some o → s.H.get (πf πl m) = some (o.ren (πf πl))) (hd : πl.Nodup) (hargs : args = ac.map (V.ren (πf πl)))
    (hs1 : Same s s1) (hv : v = vc.ren (ext (πf πl) l.length s.nx)) : CallOK P f args s v s1 := by
  rw [blt_fun] at hobs hac
  refine embed h (by omega) (fun m hm => ?_) (fun m hm => ?_) (fun m hm => rfl) (fun m o' ho => ?_) (fun v hv => ?_) (πf πl) hπ (fun m n hm hn hne => ?_) hargs hv (by rw [hs1.nx]; omega) (fun n => ?_)
  · simp only [hO, List.getElem?_eq_none hm]; rfl
  · obtain ⟨o', ho⟩ := hall m hm
    have := obsOK_ok l 0 hobs m o' ho
    exact ⟨o', ho, this.1, this.2.2⟩
  · have := obsOK_ok _ 0 hobs m o' ho
    exact ⟨this.1, by simpa using this.2.1⟩
  · obtain ⟨i, hi⟩ := List.getElem?_of_mem hv
    exact liveNames_ok _ hac i v (by simp [hi])
  · have hm' : m < πl.length := by omega
    have hn' : n < πl.length := by omega
    simp only [πf, List.getD_eq_getElem?_getD, List.getElem?_eq_getElem hm', List.getElem?_eq_getElem hn', Option.getD_some]
    intro he
    exact hne ((List.getElem_inj hd).1 he)
  · rw [hs1.nx, hs1.H, if_neg (by omega)]

def rowOfN (s : St) (n : Nat) : Option (List Int) :=
  match s.H.get n with
  | some (.mem (.words .i64 A) t (some es)) => (chk (decide (t = 3 ∧ es = 1))).bind fun _ => some A
  | _ => none
theorem rowOfN_ok {s : St} {n : Nat} {A : List Int} (h : rowOfN s n = some A) : s.H.get n = some (outOb A) := by
  unfold rowOfN at h
  split at h
  · rename_i A' t es hn
    obtain ⟨_, h1, h2⟩ := bind_some' h
    cases h2
    obtain ⟨rfl, rfl⟩ := chk_dec h1
    exact hn
  · cases h

def sm26 (args : List V) (s : St) : Option (V × St) :=
  match args with
  | [.osl a ea, .osl b eb] => (rowOfN s a).bind fun A => (rowOfN s b).bind fun B => (chk (decide (ea = 1 ∧ eb = 1 ∧ a ≠ b))).bind fun _ => (need (decide (A.length ≤ 1000 ∧ A = B)) s).bind fun s1 => some (.bool true, s1)
  | [.osl a ea, .osv b eb st len] => (rowOfN s a).bind fun A => (rowOfN s b).bind fun B => (chk (decide (ea = 1 ∧ eb = 1 ∧ a ≠ b ∧ st = 1))).bind fun _ => (need (decide (A.length ≤ 1000 ∧ len = B.length - 1 ∧ B ≠ [] ∧ A = B.drop 1)) s).bind fun s1 => some (.bool true, s1)
  | [.osv a ea st len, .osl b eb] => (rowOfN s a).bind fun A => (rowOfN s b).bind fun B => (chk (decide (ea = 1 ∧ eb = 1 ∧ a ≠ b ∧ st = 1))).bind fun _ => (need (decide (B.length ≤ 1000 ∧ len = A.length - 1 ∧ A ≠ [] ∧ A.drop 1 = B)) s).bind fun s1 => some (.bool true, s1)
  | _ => none

theorem sm26_ok (E : Env) : CfOK Go.Proofs.Try.prog E (fun g args s => if g = 26 then sm26 args s else none) := by
  intro f args s v s' h ho
  by_cases hf : f = 26
  · subst hf
    simp only [if_true] at h
    have fin : ∀ (a b : Nat) (A B : List Int) (ac : List V), rowOfN s a = some A → rowOfN s b = some B → a ≠ b → CallH Go.Proofs.Try.prog 26 ac 2 (hO (l26 A B)) (.bool true) 2 (hO (l26 A B)) → liveNames (fun m => Nat.blt m 2) (ac.map some) = true →
        args = ac.map (V.ren (πf [a, b])) → Quiet s s' → v = .bool true → Lg s s' ∧ Obl s ∧ CallOK Go.Proofs.Try.prog 26 args s v s' ∧ ∀ av w, (callFunc 26 av).run Go.Proofs.Try.prog w = .ok (.enter 26 av) w := by
      intro a b A B ac hA hB hne hc hn hargs hq hv
      refine ⟨.of_same hq.1, hq.2, ?_, Go.Proofs.Try.call26⟩
      refine embed0 (l := l26 A B) hc (fun m hm => live26 m hm) (by kernel_rfl) hn [a, b] rfl (fun q o ho => ?_) (by simp [hne]) hargs hq.1 hv
      match q, ho with
      | 0, ho => cases ho; exact rowOfN_ok hA
      | 1, ho => cases ho; exact rowOfN_ok hB
    unfold sm26 at h
    split at h
    · rename_i a ea b eb
      obtain ⟨A, h1, h2⟩ := bind_some' h
      obtain ⟨B, h3, h4⟩ := bind_some' h2
      obtain ⟨_, h5, h6⟩ := bind_some' h4
      obtain ⟨s1, h7, h8⟩ := bind_some' h6
      cases h8
      obtain ⟨rfl, rfl, hne⟩ := chk_dec h5
      obtain ⟨hd, hq⟩ := need_ok h7 ho
      obtain ⟨d1, d2⟩ := of_decide_eq_true hd
      exact fin a b A B _ h1 h3 hne (same_1 d1 d2) (by kernel_rfl) rfl hq rfl
    · rename_i a ea b eb st len
      obtain ⟨A, h1, h2⟩ := bind_some' h
      obtain ⟨B, h3, h4⟩ := bind_some' h2
      obtain ⟨_, h5, h6⟩ := bind_some' h4
      obtain ⟨s1, h7, h8⟩ := bind_some' h6
      cases h8
      obtain ⟨rfl, rfl, hne, rfl⟩ := chk_dec h5
      obtain ⟨hd, hq⟩ := need_ok h7 ho
      obtain ⟨d1, rfl, d3, d4⟩ := of_decide_eq_true hd
      exact fin a b A B _ h1 h3 hne (same_2 d1 d3 d4) (by kernel_rfl) rfl hq rfl
    · rename_i a ea st len b eb
      obtain ⟨A, h1, h2⟩ := bind_some' h
      obtain ⟨B, h3, h4⟩ := bind_some' h2
      obtain ⟨_, h5, h6⟩ := bind_some' h4
      obtain ⟨s1, h7, h8⟩ := bind_some' h6
      cases h8
      obtain ⟨rfl, rfl, hne, rfl⟩ := chk_dec h5
      obtain ⟨hd, hq⟩ := need_ok h7 ho
      obtain ⟨d1, rfl, d3, d4⟩ := of_decide_eq_true hd
      exact fin a b A B _ h1 h3 hne (same_3 d1 d3 d4) (by kernel_rfl) rfl hq rfl
    · cases h
  · simp only [if_neg hf] at h; cases h

/-- A closed call: what it lays is not asked for. -/
theorem closed_call {P : Program} {E : Env} (hE : EnvOK P E) (hS : SumOK P E) {n : Nat} {f : FuncId} {b : Bool} (h : (callX (exec E n) E f [] ⟨.nil, 0, [], [], []⟩).map (·.1) = some (.bool b)) (hob : (callX (exec E n) E f [] ⟨.nil, 0, [], [], []⟩).map (fun r => allB r.2.obl) = some true) (s : St) :
    CallOK P f [] s (.bool b) s ∧ ∀ av w, (callFunc f av).run P w = .ok (.enter f av) w := by
  cases hr : callX (exec E n) E f [] ⟨.nil, 0, [], [], []⟩ with
  | none => rw [hr] at h; cases h
  | some r =>
    obtain ⟨v, s1⟩ := r
    rw [hr] at h hob
    cases h
    have ho : Obl s1 := allB_ok (by simpa using hob)
    obtain ⟨c1, c2, c3, c4⟩ := call_ok hE hS n f [] _ _ _ hr ho
    refine ⟨?_, c4⟩
    intro D L w kind cs av hSR hav hD
    obtain ⟨L1, w1, val, m1, m2, m3, fr', m4, m5⟩ := c3 (fun _ => False) L w kind cs av (fun L' _ => ⟨fun n o ho => (by cases ho), fun n m on om hn => (by cases hn)⟩) (fun L' _ => by rw [hav L (.refl _ _)]; rfl) (fun n hn => hn.elim)
    have hkeep : ∀ k, k < w.heap.size → w1.heap[k]? = w.heap[k]? := fun k hk => m1.frame k hk fun n o ho => by cases ho
    refine ⟨L, w1, val, ⟨.refl _ _, m1.size, fun k hk _ => hkeep k hk, fun n o k ho hr hk => .inr ⟨n, o, ho, hr, hk⟩, m1.os, m1.tape, m1.output, fun _ _ h _ => h⟩, ?_, fun L'' _ => m3 L1 (.refl _ _), fr', m4, m5⟩
    rw [grow_self rfl]
    intro L' hL'
    have h0 := hSR L' hL'
    exact ⟨fun n o ho => (h0.ob n o ho).keep m1.size (fun k _ hk => hkeep k hk), h0.inj⟩

def sm10 (args : List V) (s : St) : Option (V × St) :=
  match args with
  | [] => some (.bool true, s)
  | _ => none
theorem stackKnown (s : St) : CallOK Go.Proofs.Try.prog 10 [] s (.bool true) s ∧ ∀ av w, (callFunc 10 av).run Go.Proofs.Try.prog w = .ok (.enter 10 av) w :=
  closed_call (n := 400) E0_ok S0_ok (by kernel_rfl) (by kernel_rfl) s
theorem sm10_ok (E : Env) : CfOK Go.Proofs.Try.prog E (fun g args s => if g = 10 then sm10 args s else none) := by
  intro f args s v s' h ho
  by_cases hf : f = 10
  · subst hf
    simp only [if_true] at h
    unfold sm10 at h
    split at h
    · cases h
      exact ⟨.refl _, ho, (stackKnown s).1, (stackKnown s).2⟩
    · cases h
  · simp only [if_neg hf] at h; cases h

def smS (f : FuncId) : Option (List V → St → Option (V × St)) := cond (Nat.beq f 49) (some sm49) (cond (Nat.beq f 99) (some sm99) (cond (Nat.beq f 26) (some sm26) (cond (Nat.beq f 10) (some sm10) none)))
noncomputable def E1 : Env := envOf tabT tabF smS
theorem E1_ok : EnvOK Go.Proofs.Try.prog E1 := env_ok _
theorem S1_ok : SumOK Go.Proofs.Try.prog E1 := by
  intro f F h
  have h : smS f = some F := h
  unfold smS at h
  cases h1 : Nat.beq f 49 with
  | true => rw [h1] at h; cases h; have := Nat.beq_eq.mp h1; subst this; exact sm49_ok E1
  | false =>
    cases h2 : Nat.beq f 99 with
    | true => rw [h1, h2] at h; cases h; have := Nat.beq_eq.mp h2; subst this; exact sm99_ok E1
    | false =>
      cases h3 : Nat.beq f 26 with
      | true => rw [h1, h2, h3] at h; cases h; have := Nat.beq_eq.mp h3; subst this; exact sm26_ok E1
      | false =>
        cases h4 : Nat.beq f 10 with
        | true => rw [h1, h2, h3, h4] at h; cases h; have := Nat.beq_eq.mp h4; subst this; exact sm10_ok E1
        | false => rw [h1, h2, h3, h4] at h; cases h
end Go.Sx
