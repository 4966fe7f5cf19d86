/- One operation of a region with an open order, as a step. No program in sight. Conditions: none. -/
import Derived.Test.YtpkimnaenlbbjaaGreatM14
namespace Go.Proofs.YtpkimnaenlbbjaaGreat.AM
open Go

/-- The env E has what the operation looks at in e. -/
structure Ag (nt : Nat) (e E : Env) (o : AOper) : Prop where
  rd : ∀ t, t ∈ o.rds → E.getD t .unk = e.getD t .unk
  sl : ∀ j cs, nt ≤ j → e.getD j .unk = .ag cs → E.getD j .unk = .ag cs

theorem Ag.ev {nt : Nat} {e E : Env} {o : AOper} (h : Ag nt e E o) : ∀ x, x ∈ o.op.opds → x.ev E = x.ev e := by
  intro x hx
  cases x with
  | c v => rfl
  | t n => exact h.rd n (by simp only [AOper.rds, List.mem_append, List.mem_flatMap]; exact .inr ⟨_, hx, by simp [Opd.tm]⟩)

/-- How an operation turns the slots of the stack. -/
inductive MOK (nt : Nat) (e : Env) (o : AOp) : (Env → Env) → Prop where
  | id : MOK nt e o (fun E => E)
  | new (sl : Nat) (cs : List AV) : o.slotD = some sl → MOK nt e o (fun E => E.set sl (.ag cs))
  | old (sl : Nat) (cs cs' : List AV) : nt ≤ sl → e.getD sl .unk = .ag cs' → MOK nt e o (fun E => E.set sl (.ag cs))

theorem ldE_ag {nt : Nat} {e E : Env} (h : ∀ j cs, nt ≤ j → e.getD j .unk = .ag cs → E.getD j .unk = .ag cs) {s off : Nat} {n : Option Nat} {v : AV} (hs : nt ≤ s) (hl : ldE e s off n = some v) : ldE E s off n = some v := by
  unfold ldE at hl ⊢
  split at hl
  · rename_i cs hcs
    rw [h s cs hs hcs]; exact hl
  · cases hl

theorem ldA_ag {nt : Nat} {e E : Env} {h : Hp} (hs : ∀ j cs, nt ≤ j → e.getD j .unk = .ag cs → E.getD j .unk = .ag cs) {n : Option Nat} {x v : AV} (hx : ∀ s off, x = .q s off → nt ≤ s) (hl : ldA e h n x = some v) : ldA E h n x = some v := by
  cases x <;> simp only [ldA] at hl ⊢ <;> try (cases hl; done)
  · exact hl
  · exact ldE_ag hs (hx _ _ rfl) hl

/-- Every operation: it gives the same in an environment that has what it looks at. -/
theorem aop_env {β : Type} {o : AOper} (hX : o.op.cl ≠ .X) {nt : Nat} {call : Call} {e : Env} {h : Hp} (hd : dok nt o.op e h = true) {k : AV → Env → Hp → Acc β} {s : KS} {out : β × KS} (hr : (aop call o.op e h k).run s = some out) :
    ∃ v m h' s', MOK nt e o.op m ∧ (k v (m e) h').run s' = some out ∧ ∀ (γ : Type) (E : Env) (k' : AV → Env → Hp → Acc γ), Ag nt e E o → (aop call o.op E h k').run s = (k' v (m E) h').run s' := by
  rcases hc : o.op.cl with _ | _ | _ | _ | _ | _
  case P =>
    obtain ⟨v, g1, g2⟩ := aop_P hc hr
    exact ⟨v, _, h, s, .id, g1, fun γ E k' ha => by rw [g2 γ E h k' ha.ev]⟩
  case S =>
    have : ∃ sl, o.op.slotD = some sl := by
      revert hc; cases o.op <;> intro hc <;> first | (cases hc; done) | exact ⟨_, rfl⟩
    obtain ⟨sl, hsl⟩ := this
    obtain ⟨v, cs, g1, g2⟩ := aop_S hsl hr
    exact ⟨v, _, h, s, .new sl cs hsl, g1, fun γ E k' ha => by rw [g2 γ E h k' ha.ev]⟩
  case A =>
    obtain ⟨f, B, g1, g2⟩ := aop_A hc hr
    exact ⟨_, _, _, s, .id, g1, fun γ E k' ha => by rw [g2 γ E h k' ha.ev]⟩
  case X => exact absurd hc hX
  case L =>
    obtain ⟨dst, op, guard, re⟩ := o
    cases op <;> first | (cases hc; done) | skip
    rename_i n a
    simp only [aop, Acc.orF] at hr
    split at hr
    · rename_i v hv
      split at hr
      · cases hr
      · rename_i hU
        refine ⟨v, _, h, s, .id, hr, fun γ E k' ha => ?_⟩
        have h1 : a.ev E = a.ev e := ha.ev a (by simp [AOp.opds])
        have h2 : ldA E h n (a.ev E) = some v := by
          rw [h1]
          refine ldA_ag ha.sl (fun s off hs => ?_) hv
          simp only [dok, hs, adok, Nat.ble_eq] at hd
          exact hd
        simp only [aop, Acc.orF, h2, if_neg hU]
    · cases hr
  case E =>
    obtain ⟨dst, op, guard, re⟩ := o
    cases op <;> first | (cases hc; done) | skip
    case st n a v =>
      simp only [aop] at hr
      split at hr
      · rename_i hn
        split at hr
        · rename_i id idx off hx
          simp only [Acc.orF] at hr
          split at hr
          · rename_i h' hh
            refine ⟨.und, _, h', s, .id, hr, fun γ E k' ha => ?_⟩
            have h1 : a.ev E = a.ev e := ha.ev a (by simp [AOp.opds])
            have h2 : v.ev E = v.ev e := ha.ev v (by simp [AOp.opds])
            simp only [aop, h1, h2, hx, Acc.orF, hh, if_pos hn]
          · cases hr
        · rename_i sl off hx
          simp only [Acc.orF] at hr
          split at hr
          · rename_i e' he
            simp only [dok, hx, Nat.ble_eq] at hd
            unfold stE at he
            split at he
            · rename_i cs hcs
              split at he
              · rename_i hb
                cases he
                refine ⟨.und, _, h, s, .old sl _ cs hd hcs, hr, fun γ E k' ha => ?_⟩
                have h1 : a.ev E = a.ev e := ha.ev a (by simp [AOp.opds])
                have h2 : v.ev E = v.ev e := ha.ev v (by simp [AOp.opds])
                have h3 := ha.sl sl cs hd hcs
                simp only [aop, h1, h2, hx, Acc.orF, stE, h3, hb, if_pos hn, if_true]
              · cases he
            · cases he
          · cases hr
        · cases hr
      · cases hr
    case call f as =>
      simp only [aop, callA] at hr
      split at hr
      · rename_i hp
        rw [Acc.run_bind] at hr
        split at hr
        · rename_i v' s' hcall
          obtain ⟨v, h'⟩ := v'
          refine ⟨v, _, h', s', .id, hr, fun γ E k' ha => ?_⟩
          have h1 := map_ev (l := as) fun x hx => ha.ev x (by simpa [AOp.opds] using hx)
          simp only [aop, callA, h1, hp, if_true, Acc.run_bind, hcall]
        · cases hr
      · cases hr
    case callv f as =>
      simp only [aop] at hr
      split at hr
      · rename_i g fi ca hf
        simp only [callA] at hr
        split at hr
        · rename_i hp
          rw [Acc.run_bind] at hr
          split at hr
          · rename_i v' s' hcall
            obtain ⟨v, h'⟩ := v'
            refine ⟨v, _, h', s', .id, hr, fun γ E k' ha => ?_⟩
            have h1 := map_ev (l := as) fun x hx => ha.ev x (by simp [AOp.opds, hx])
            have h2 : f.ev E = f.ev e := ha.ev f (by simp [AOp.opds])
            simp only [aop, callA, h1, h2, hf, hp, if_true, Acc.run_bind, hcall]
          · cases hr
        · cases hr
      · cases hr
    case app sz by_ x y =>
      simp only [aop] at hr
      split at hr
      · rename_i hb
        simp only [Acc.orF] at hr
        split at hr
        · rename_i rs hrs
          split at hr
          · rename_i q hq
            refine ⟨_, _, _, s, .id, hr, fun γ E k' ha => ?_⟩
            have h1 : x.ev E = x.ev e := ha.ev x (by simp [AOp.opds])
            have h2 : y.ev E = y.ev e := ha.ev y (by simp [AOp.opds])
            have h3 : rowsX E h sz (y.ev E) = some rs := by
              rw [h2]
              unfold rowsX at hrs ⊢
              split at hrs
              · rename_i z sl n hy
                simp only [dok, hy, Nat.ble_eq] at hd
                split at hrs
                · rename_i hz
                  split at hrs
                  · rename_i cs hcs
                    rw [if_pos hz, ha.sl sl cs hd hcs]; exact hrs
                  · cases hrs
                · cases hrs
              · exact hrs
            simp only [aop, Acc.orF, h1, h3, hq, if_pos hb]
          · cases hr
        · cases hr
      · cases hr
    case clear z x =>
      simp only [aop] at hr
      split at hr
      · rename_i hb
        simp only [Acc.orF] at hr
        split at hr
        · rename_i h' hh
          refine ⟨_, _, _, s, .id, hr, fun γ E k' ha => ?_⟩
          have h1 : x.ev E = x.ev e := ha.ev x (by simp [AOp.opds])
          simp only [aop, Acc.orF, h1, hh, if_pos hb]
        · cases hr
      · cases hr


/-- Slots written one after the other. -/
def upd (e : Env) : List (Nat × AV) → Env
  | [] => e
  | (i, v) :: r => upd (e.set i v) r

def dls : Option Nat → AV → List (Nat × AV)
  | some d, v => [(d, v)]
  | none, _ => []

theorem setD_upd (e : Env) (d : Option Nat) (v : AV) : setD e d v = upd e (dls d v) := by cases d <;> rfl
theorem dls_mem {d : Option Nat} {v : AV} {p : Nat × AV} (h : p ∈ dls d v) : d = some p.1 := by
  cases d <;> simp [dls] at h
  rw [h]

theorem upd_append (e : Env) (a b : List (Nat × AV)) : upd e (a ++ b) = upd (upd e a) b := by
  induction a generalizing e with
  | nil => rfl
  | cons x a ih => exact ih _

theorem upd_set (e : Env) (i : Nat) (v : AV) (b : List (Nat × AV)) (h : ∀ q, q ∈ b → q.1 ≠ i) : upd (e.set i v) b = (upd e b).set i v := by
  induction b generalizing e with
  | nil => rfl
  | cons x b ih =>
    obtain ⟨j, u⟩ := x
    have h1 : j ≠ i := h (j, u) (by simp)
    simp only [upd]
    rw [List.set_comm _ _ (fun hh => h1 hh.symm), ih _ fun q hq => h q (by simp [hq])]

theorem upd_swap (e : Env) (a b : List (Nat × AV)) (h : ∀ p, p ∈ a → ∀ q, q ∈ b → p.1 ≠ q.1) : upd (upd e a) b = upd (upd e b) a := by
  induction a generalizing e with
  | nil => rfl
  | cons x a ih =>
    obtain ⟨i, v⟩ := x
    simp only [upd]
    rw [ih _ fun p hp => h p (by simp [hp]), upd_set _ _ _ _ fun q hq hh => h (i, v) (by simp) q hq hh.symm]

theorem upd_get (e : Env) (a : List (Nat × AV)) (t : Nat) (h : ∀ p, p ∈ a → p.1 ≠ t) : (upd e a).getD t .unk = e.getD t .unk := by
  induction a generalizing e with
  | nil => rfl
  | cons x a ih =>
    obtain ⟨i, v⟩ := x
    simp only [upd]
    rw [ih _ fun p hp => h p (by simp [hp]), List.getD_set', if_neg (fun hh => h (i, v) (by simp) hh.1)]

theorem set_same {e : Env} {t : Nat} {v : AV} (hv : e.getD t .unk = v) (hu : v ≠ .unk) : e.set t v = e := by
  apply List.ext_getElem?
  intro i
  rw [List.getElem?_set]
  split
  · rename_i hti
    subst hti
    simp only [List.getD_eq_getElem?_getD] at hv
    split
    · rename_i hl
      rw [List.getElem?_eq_getElem hl] at hv ⊢
      simp only [Option.getD_some] at hv
      rw [hv]
    · rename_i hl
      rw [List.getElem?_eq_none (by omega)] at hv
      exact absurd hv.symm hu
  · rfl

/-- Whether an operation is carried out. -/
def gd (o : AOper) (e : Env) : Option Bool :=
  match o.guard with
  | none => some true
  | some (t, w) => match e.getD t .unk with
    | .b true => some w
    | .b false => some (!w)
    | .und => some false
    | _ => none

theorem run1 {β : Type} {call : Call} {o : AOper} {e : Env} {h : Hp} {K : Env → Hp → Acc β} : runOps call [o.bare] e h K =
    match gd o e with
    | some true => aop call o.op e h fun v e' h' => K (setD e' o.dst v) h'
    | some false => K (setD e o.dst .und) h
    | none => .no := by
  obtain ⟨dst, op, guard, re⟩ := o
  cases guard with
  | none => simp only [AOper.bare, runOps, gd, chk]
  | some g =>
    obtain ⟨t, w⟩ := g
    simp only [AOper.bare, runOps, gd, chk]
    have hset : ∀ b, e.getD t .unk = .b b → e.set t (.b b) = e := fun b hb => set_same hb (by intro hh; cases hh)
    revert hset
    generalize hv : e.getD t .unk = v
    intro hset
    cases v <;> try rfl
    rename_i b
    have h1 := hset b rfl
    cases b <;> cases w <;> simp [h1]

theorem gd_eq {o : AOper} {e E : Env} (h : ∀ t, t ∈ o.rds → E.getD t .unk = e.getD t .unk) : gd o E = gd o e := by
  unfold gd
  split
  · rfl
  · rename_i t w hg
    rw [h t (by simp [AOper.rds, hg])]

theorem ev_of_rd {o : AOper} {e E : Env} (h : ∀ t, t ∈ o.rds → E.getD t .unk = e.getD t .unk) : ∀ x, x ∈ o.op.opds → x.ev E = x.ev e := by
  intro x hx
  cases x with
  | c v => rfl
  | t n => exact h n (by simp only [AOper.rds, List.mem_append, List.mem_flatMap]; exact .inr ⟨_, hx, by simp [Opd.tm]⟩)

/-- The slots an operation writes. -/
def UOK (nt : Nat) (e : Env) (o : AOper) (us : List (Nat × AV)) : Prop :=
  ∀ p, p ∈ us → o.dst = some p.1 ∨ o.op.slotD = some p.1 ∨ (nt ≤ p.1 ∧ ∃ cs, e.getD p.1 .unk = .ag cs)

def Stp (call : Call) (o : AOper) (e : Env) (h : Hp) (s : KS) (e' : Env) (h' : Hp) (s' : KS) : Prop :=
  ∀ (γ : Type) (K : Env → Hp → Acc γ), (runOps call [o.bare] e h K).run s = (K e' h').run s'

section
variable {β : Type} {o : AOper} {nt : Nat} {call : Call} {e : Env} {h : Hp} {K : Env → Hp → Acc β} {s : KS} {out : β × KS}

theorem run1_env (hX : o.op.cl ≠ .X) (hd : dok nt o.op e h = true) (hr : (runOps call [o.bare] e h K).run s = some out) :
    ∃ us h' s', UOK nt e o us ∧ (K (upd e us) h').run s' = some out ∧ ∀ E, Ag nt e E o → Stp call o E h s (upd E us) h' s' := by
  rw [run1] at hr
  split at hr
  · rename_i hg
    obtain ⟨v, m, h', s', hm, g1, g2⟩ := aop_env hX hd hr
    cases hm with
    | id =>
      rw [setD_upd] at g1
      refine ⟨_, h', s', fun p hp => .inl (dls_mem hp), g1, fun E ha γ K' => ?_⟩
      rw [run1, gd_eq ha.rd, hg]
      dsimp only
      rw [g2 γ E _ ha, setD_upd]
    | new sl cs hsl =>
      rw [setD_upd] at g1
      refine ⟨(sl, .ag cs) :: dls o.dst v, h', s', ?_, g1, fun E ha γ K' => ?_⟩
      · intro p hp
        rcases List.mem_cons.1 hp with rfl | hp
        · exact .inr (.inl hsl)
        · exact .inl (dls_mem hp)
      rw [run1, gd_eq ha.rd, hg]
      dsimp only
      rw [g2 γ E _ ha, setD_upd]; rfl
    | old sl cs cs' hsl hcs =>
      rw [setD_upd] at g1
      refine ⟨(sl, .ag cs) :: dls o.dst v, h', s', ?_, g1, fun E ha γ K' => ?_⟩
      · intro p hp
        rcases List.mem_cons.1 hp with rfl | hp
        · exact .inr (.inr ⟨hsl, cs', hcs⟩)
        · exact .inl (dls_mem hp)
      rw [run1, gd_eq ha.rd, hg]
      dsimp only
      rw [g2 γ E _ ha, setD_upd]; rfl
  · rename_i hg
    rw [setD_upd] at hr
    refine ⟨_, h, s, fun p hp => .inl (dls_mem hp), hr, fun E ha γ K' => ?_⟩
    rw [run1, gd_eq ha.rd, hg, setD_upd]
  · cases hr

theorem run1_P (hc : o.op.cl = .P ∨ o.op.cl = .S) (hr : (runOps call [o.bare] e h K).run s = some out) :
    ∃ us, (∀ p, p ∈ us → o.dst = some p.1 ∨ o.op.slotD = some p.1) ∧ (K (upd e us) h).run s = some out ∧ ∀ E H S, (∀ t, t ∈ o.rds → E.getD t .unk = e.getD t .unk) → Stp call o E H S (upd E us) H S := by
  rw [run1] at hr
  split at hr
  · rename_i hg
    rcases hc with hc | hc
    · obtain ⟨v, g1, g2⟩ := aop_P hc hr
      rw [setD_upd] at g1
      refine ⟨_, fun p hp => .inl (dls_mem hp), g1, fun E H S ha γ K' => ?_⟩
      rw [run1, gd_eq ha, hg]
      dsimp only
      rw [g2 γ E H _ (ev_of_rd ha), setD_upd]
    · have : ∃ sl, o.op.slotD = some sl := by
        revert hc; cases o.op <;> intro hc <;> first | (cases hc; done) | exact ⟨_, rfl⟩
      obtain ⟨sl, hsl⟩ := this
      obtain ⟨v, cs, g1, g2⟩ := aop_S hsl hr
      rw [setD_upd] at g1
      refine ⟨(sl, .ag cs) :: dls o.dst v, ?_, g1, fun E H S ha γ K' => ?_⟩
      · intro p hp
        rcases List.mem_cons.1 hp with rfl | hp
        · exact .inr hsl
        · exact .inl (dls_mem hp)
      rw [run1, gd_eq ha, hg]
      dsimp only
      rw [g2 γ E H _ (ev_of_rd ha), setD_upd]; rfl
  · rename_i hg
    rw [setD_upd] at hr
    refine ⟨_, fun p hp => .inl (dls_mem hp), hr, fun E H S ha γ K' => ?_⟩
    rw [run1, gd_eq ha, hg, setD_upd]
  · cases hr

theorem run1_A (hc : o.op.cl = .A) (hr : (runOps call [o.bare] e h K).run s = some out) :
    ∃ (f : Nat → AV) (g : Hp → Hp), (g = id ∨ ∃ B, g = fun H => H.new B) ∧ (K (upd e (dls o.dst (f h.next))) (g h)).run s = some out ∧
      ∀ E H S, (∀ t, t ∈ o.rds → E.getD t .unk = e.getD t .unk) → Stp call o E H S (upd E (dls o.dst (f H.next))) (g H) S := by
  rw [run1] at hr
  split at hr
  · rename_i hg
    obtain ⟨f, B, g1, g2⟩ := aop_A hc hr
    rw [setD_upd] at g1
    refine ⟨f, fun H => H.new B, .inr ⟨B, rfl⟩, g1, fun E H S ha γ K' => ?_⟩
    rw [run1, gd_eq ha, hg]
    dsimp only
    rw [g2 γ E H _ (ev_of_rd ha), setD_upd]
  · rename_i hg
    rw [setD_upd] at hr
    refine ⟨fun _ => .und, id, .inl rfl, hr, fun E H S ha γ K' => ?_⟩
    rw [run1, gd_eq ha, hg, setD_upd]; rfl
  · cases hr

theorem run1_L {n : Option Nat} {a : Opd} (hc : o.op = .ld n a) (hr : (runOps call [o.bare] e h K).run s = some out) :
    ∃ v, (K (upd e (dls o.dst v)) h).run s = some out ∧ ((v = .und ∧ gd o e = some false) ∨ (gd o e = some true ∧ v.isU = false ∧ ldA e h n (a.ev e) = some v)) ∧
      ∀ E H S, (∀ t, t ∈ o.rds → E.getD t .unk = e.getD t .unk) → (gd o e = some true → ldA E H n (a.ev e) = some v) → Stp call o E H S (upd E (dls o.dst v)) H S := by
  rw [run1] at hr
  split at hr
  · rename_i hg
    rw [hc] at hr
    simp only [aop, Acc.orF] at hr
    split at hr
    · rename_i v hv
      split at hr
      · cases hr
      · rename_i hU
        rw [setD_upd] at hr
        refine ⟨v, hr, .inr ⟨hg, by simpa using hU, hv⟩, fun E H S ha hl γ K' => ?_⟩
        rw [run1, gd_eq ha, hg]
        dsimp only
        rw [hc]
        have h1 : a.ev E = a.ev e := ev_of_rd ha a (by rw [hc]; simp [AOp.opds])
        simp only [aop, Acc.orF, h1, hl hg, if_neg hU]
        rw [setD_upd]
    · cases hr
  · rename_i hg
    rw [setD_upd] at hr
    refine ⟨_, hr, .inl ⟨rfl, hg⟩, fun E H S ha _ γ K' => ?_⟩
    rw [run1, gd_eq ha, hg, setD_upd]
  · cases hr

end
end Go.Proofs.YtpkimnaenlbbjaaGreat.AM
