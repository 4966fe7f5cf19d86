/- A region with an open order: an operation that may come first is pulled to the front. No program in sight. Conditions: none. -/
import Derived.Test.YtpkimnaenlbbjaaGreatM15
namespace Go.Proofs.YtpkimnaenlbbjaaGreat.AM
open Go

def AOper.res (o : AOper) : List Nat := o.re.flatMap fun q => q.2.1.tm ++ q.2.2.tm

def Cl.may : Cl → Cl → Bool
  | .P, .X => false
  | .S, .X => false
  | .P, _ => true
  | .S, _ => true
  | .L, .P => true
  | .L, .L => true
  | .A, .P => true
  | .A, .L => true
  | .A, .S => true
  | .E, .P => true
  | .E, .L => true
  | _, _ => false

/-- An operation by itself. -/
structure Wf (nt : Nat) (o : AOper) : Prop where
  rd : ∀ t, t ∈ o.rds → t < nt
  dst : ∀ d, o.dst = some d → d < nt
  slot : ∀ sl, o.op.slotD = some sl → nt ≤ sl
  X : o.op.cl ≠ .X
  re : o.re = [] ∨ o.op.cl = .E
  rs : ∀ t, t ∈ o.res → t < nt

/-- x may come ahead of y. -/
structure Okp (x y : AOper) : Prop where
  d1 : ∀ d, x.dst = some d → d ∉ y.rds ∧ d ∉ y.res ∧ y.dst ≠ some d
  d2 : ∀ d, y.dst = some d → d ∉ x.rds
  sl : ∀ sl, x.op.slotD = some sl → y.op.slotD ≠ some sl
  may : Cl.may x.op.cl y.op.cl = true

theorem dok_ev {nt : Nat} {o : AOp} {e E : Env} {h : Hp} (ha : ∀ x, x ∈ o.opds → x.ev E = x.ev e) : dok nt o E h = dok nt o e h := by
  cases o <;> try rfl
  · rename_i n a; simp only [dok, ha a (by simp [AOp.opds])]
  · rename_i n a v; simp only [dok, ha a (by simp [AOp.opds])]
  · rename_i _ _ x y; simp only [dok, ha y (by simp [AOp.opds])]

theorem dok_PSA {nt : Nat} {o : AOp} {e : Env} {h : Hp} (hc : o.cl = .P ∨ o.cl = .S ∨ o.cl = .A) : dok nt o e h = true := by
  cases o <;> first | rfl | (rcases hc with hc | hc | hc <;> cases hc)

theorem opd_get {e E : Env} {x : Opd} (ha : ∀ t, t ∈ x.tm → E.getD t .unk = e.getD t .unk) : x.ev E = x.ev e := by
  cases x with
  | c v => rfl
  | t n => exact ha n (by simp [Opd.tm])

theorem chk1_ag {nt : Nat} {e E : Env} {h : Hp} {q : Option Nat × Opd × Opd} (ha : ∀ t, t ∈ q.2.1.tm ++ q.2.2.tm → E.getD t .unk = e.getD t .unk) (hs : ∀ j cs, nt ≤ j → e.getD j .unk = .ag cs → E.getD j .unk = .ag cs) (hk : chk1 nt e h q = true) : chk1 nt E h q = true := by
  obtain ⟨n, a, v⟩ := q
  have h1 : a.ev E = a.ev e := opd_get fun t ht => ha t (by simp [ht])
  have h2 : v.ev E = v.ev e := opd_get fun t ht => ha t (by simp [ht])
  simp only [chk1, h1, h2] at hk ⊢
  rw [Bool.and_eq_true] at hk ⊢
  refine ⟨hk.1, ?_⟩
  have had := hk.1
  have hk := hk.2
  generalize v.ev e = vv at hk ⊢
  have key : ∀ (vv : AV), ((match ldA e h n (a.ev e) with | some u => AV.eqb u vv | none => false) = true) → (match ldA E h n (a.ev e) with | some u => AV.eqb u vv | none => false) = true := by
    intro vv hk
    cases hl : ldA e h n (a.ev e) with
    | none => rw [hl] at hk; cases hk
    | some u =>
      rw [hl] at hk
      have : ldA E h n (a.ev e) = some u := by
        refine ldA_ag hs (fun s off hq => ?_) hl
        rw [hq] at had
        simpa [adok] using had
      rw [this]; exact hk
  cases vv <;> first | rfl | exact key _ hk

/-- Keys of what an operation writes. -/
theorem keys_rd {nt : Nat} {e : Env} {y : AOper} {us : List (Nat × AV)} (wy : Wf nt y) (hu : UOK nt e y us) {t : Nat} (ht : t < nt) (hd : ∀ d, y.dst = some d → d ≠ t) : ∀ p, p ∈ us → p.1 ≠ t := by
  intro p hp hh
  rcases hu p hp with h1 | h1 | ⟨h1, _⟩
  · exact hd _ h1 hh
  · have := wy.slot _ h1; omega
  · omega

theorem UOK.of_P {nt : Nat} {e : Env} {o : AOper} {us : List (Nat × AV)} (h : ∀ p, p ∈ us → o.dst = some p.1 ∨ o.op.slotD = some p.1) : UOK nt e o us := fun p hp => (h p hp).imp id .inl

section
variable {β : Type} {x y : AOper} {nt : Nat} {call : Call} {e : Env} {h : Hp} {K : Env → Hp → Acc β} {s : KS} {out : β × KS}

/-- What comes of it when x goes ahead of y. -/
def Swp (nt : Nat) (call : Call) (x y : AOper) (e : Env) (h : Hp) (s : KS) (K : Env → Hp → Acc β) (out : β × KS) (C : Env → Hp → KS → Prop) : Prop :=
  ∃ ex hx sx ey hy sy e2 h2 s2, Stp call x e h s ex hx sx ∧ dok nt x.op e h = true ∧ (∃ us, ex = upd e us ∧ UOK nt e x us) ∧ dok nt y.op ex hx = true ∧ Stp call y ex hx sx e2 h2 s2 ∧ (K ey hy).run sy = some out ∧ C e2 h2 s2 ∧
    (∀ q, q ∈ y.re → chk1 nt ey hy q = true → chk1 nt e2 h2 q = true) ∧
    (∀ q, q ∈ x.re → (∀ d, y.dst = some d → d ∉ q.2.1.tm ++ q.2.2.tm) → chk1 nt e2 h2 q = true → chk1 nt ex hx q = true)

theorem stp_ret {o : AOper} {e' : Env} {h' : Hp} {s' : KS} (hs : Stp call o e h s e' h' s') : (runOps call [o.bare] e h fun e h => Acc.ret (e, h)).run s = some ((e', h'), s') := hs _ _

/-- After x that changed neither the heap nor the frame, y does the same. -/
theorem swap_after (wx : Wf nt x) (wy : Wf nt y) (hp : Okp x y) (hslot : ∀ sl, x.op.slotD = some sl → e.getD sl .unk = .unk) (hdy : dok nt y.op e h = true) (hry : (runOps call [y.bare] e h K).run s = some out)
    {C : Env → Hp → KS → Prop} (hx : ∀ ey hy sy, (K ey hy).run sy = some out → dok nt x.op ey hy = true ∧ ∃ e2 h2 s2, Stp call x ey hy sy e2 h2 s2 ∧ C e2 h2 s2)
    (hgo : ∀ us hy sy e2 h2 s2, UOK nt e y us → Stp call y e h s (upd e us) hy sy → (K (upd e us) hy).run sy = some out → dok nt x.op (upd e us) hy = true → Stp call x (upd e us) hy sy e2 h2 s2 → ∃ usx, (∀ p, p ∈ usx → x.dst = some p.1 ∨ x.op.slotD = some p.1) ∧ e2 = upd (upd e us) usx ∧ h2 = hy ∧ s2 = sy ∧ Stp call x e h s (upd e usx) h s ∧ dok nt x.op e h = true)
    (hxre : x.re = []) : Swp nt call x y e h s K out C := by
  obtain ⟨usy, hy', sy', oky, hk, ygo⟩ := run1_env wy.X hdy hry
  obtain ⟨dx, e2, h2, s2, stx, hC⟩ := hx _ _ _ hk
  obtain ⟨usx, okx, rfl, rfl, rfl, stx', dx'⟩ := hgo _ _ _ _ _ _ oky (ygo e ⟨fun _ _ => rfl, fun _ _ _ hc => hc⟩) hk dx stx
  have krd : ∀ t, t ∈ y.rds → (upd e usx).getD t .unk = e.getD t .unk := fun t ht =>
    upd_get _ _ _ (keys_rd wx (UOK.of_P okx (nt := nt) (e := e)) (wy.rd t ht) fun d hd hh => (hp.d1 d hd).1 (hh ▸ ht))
  have ksl : ∀ (e' : Env), (∀ sl, x.op.slotD = some sl → e'.getD sl .unk = .unk) → ∀ j cs, nt ≤ j → e'.getD j .unk = .ag cs → (upd e' usx).getD j .unk = .ag cs := by
    intro e' he j cs hj hc
    rw [upd_get]; exact hc
    intro p hp' hh
    rcases okx p hp' with h1 | h1
    · have := wx.dst _ h1; omega
    · rw [hh] at h1; rw [he _ h1] at hc; cases hc
  have hslot' : ∀ sl, x.op.slotD = some sl → (upd e usy).getD sl .unk = .unk := by
    intro sl hsl
    rw [upd_get]; exact hslot sl hsl
    intro p hp' hh
    have := wx.slot _ hsl
    rcases oky p hp' with h1 | h1 | ⟨_, cs, h1⟩
    · have := wy.dst _ h1; omega
    · rw [hh] at h1; exact hp.sl sl hsl h1
    · rw [hh, hslot sl hsl] at h1; cases h1
  have hsw : upd (upd e usx) usy = upd (upd e usy) usx := by
    refine upd_swap _ _ _ fun p hp1 q hq1 hh => ?_
    rcases okx p hp1 with h1 | h1
    · rcases oky q hq1 with h2 | h2 | ⟨h2, _⟩
      · exact (hp.d1 _ h1).2.2 (by rw [h2, hh])
      · have := wx.dst _ h1; have := wy.slot _ h2; omega
      · have := wx.dst _ h1; omega
    · rcases oky q hq1 with h2 | h2 | ⟨_, cs, h2⟩
      · have := wy.dst _ h2; have := wx.slot _ h1; omega
      · exact hp.sl _ h1 (by rw [h2, hh])
      · rw [← hh, hslot _ h1] at h2; cases h2
  have st2 := ygo (upd e usx) ⟨krd, ksl e hslot⟩
  rw [hsw] at st2
  refine ⟨_, _, _, _, _, _, _, _, _, stx', dx', ⟨usx, rfl, UOK.of_P okx⟩, ?_, st2, hk, hC, ?_, ?_⟩
  · rw [dok_ev (ev_of_rd krd)]; exact hdy
  · intro q hq hc
    refine chk1_ag (fun t ht => ?_) (ksl _ hslot') hc
    have htr : t ∈ y.res := by simp only [AOper.res, List.mem_flatMap]; exact ⟨q, hq, ht⟩
    rw [upd_get]
    intro p hp' hh
    rcases okx p hp' with h1 | h1
    · exact (hp.d1 _ h1).2.1 (hh ▸ htr)
    · have := wx.slot _ h1; have := wy.rs _ htr; omega
  · intro q hq; rw [hxre] at hq; cases hq

theorem UOK.slots {us : List (Nat × AV)} {o : AOper} (wo : Wf nt o) (hk : ∀ p, p ∈ us → o.dst = some p.1) (e : Env) : ∀ j, nt ≤ j → (upd e us).getD j .unk = e.getD j .unk := by
  intro j hj
  refine upd_get _ _ _ fun p hp hh => ?_
  have := wo.dst _ (hk p hp); omega

/-- x may go ahead of y. -/
theorem swap (wx : Wf nt x) (wy : Wf nt y) (hp : Okp x y) (hslot : ∀ sl, x.op.slotD = some sl → e.getD sl .unk = .unk) (hdy : dok nt y.op e h = true) (hry : (runOps call [y.bare] e h K).run s = some out)
    {C : Env → Hp → KS → Prop} (hx : ∀ ey hy sy, (K ey hy).run sy = some out → dok nt x.op ey hy = true ∧ ∃ e2 h2 s2, Stp call x ey hy sy e2 h2 s2 ∧ C e2 h2 s2)
    (hre : x.op.cl = .E → ∀ n a, y.op = .ld n a → ∃ m d, a = .t m ∧ y.dst = some d ∧ d ∉ y.rds ∧ x.dst ≠ some m ∧ ∀ e2 h2 s2, C e2 h2 s2 → chk1 nt e2 h2 (n, .t m, .t d) = true) : Swp nt call x y e h s K out C := by
  have rdx : ∀ us, UOK nt e y us → ∀ t, t ∈ x.rds → (upd e us).getD t .unk = e.getD t .unk := fun us hus t ht =>
    upd_get _ _ _ (keys_rd wy hus (wx.rd t ht) fun d hd hh => hp.d2 d hd (hh ▸ ht))
  have rdx' : ∀ us, UOK nt e y us → ∀ t, t ∈ x.rds → e.getD t .unk = (upd e us).getD t .unk := fun us hus t ht => (rdx us hus t ht).symm
  have yre : ∀ {e1 h1 e2 h2}, y.op.cl ≠ .E → ∀ q, q ∈ y.re → chk1 nt e1 h1 q = true → chk1 nt e2 h2 q = true := by
    intro _ _ _ _ hc q hq
    rcases wy.re with h1 | h1
    · rw [h1] at hq; cases hq
    · exact absurd h1 hc
  have slotnone : ∀ {o : AOper}, o.op.cl ≠ .S → o.op.slotD = none := by
    intro o hc
    cases ho : o.op <;> first | rfl | (rw [ho] at hc; exact absurd rfl hc)
  have dstP : ∀ {o : AOper} {us : List (Nat × AV)}, o.op.cl ≠ .S → (∀ p, p ∈ us → o.dst = some p.1 ∨ o.op.slotD = some p.1) → ∀ p, p ∈ us → o.dst = some p.1 := by
    intro o us hc hu p hp'
    rcases hu p hp' with h1 | h1
    · exact h1
    · rw [slotnone hc] at h1; cases h1
  rcases hcx : x.op.cl with _ | _ | _ | _ | _ | _
  case P =>
    refine swap_after wx wy hp hslot hdy hry hx ?_ (wx.re.resolve_right (by rw [hcx]; intro hh; cases hh))
    intro us hy sy e2 h2 s2 hus _ hk hdx st
    obtain ⟨usx, okx, g1, xgo⟩ := run1_P (.inl hcx) (stp_ret st)
    simp only [Acc.run, Option.some.injEq, Prod.mk.injEq] at g1
    obtain ⟨⟨rfl, rfl⟩, rfl⟩ := g1
    exact ⟨usx, okx, rfl, rfl, rfl, xgo e h s (rdx' us hus), dok_PSA (.inl hcx)⟩
  case S =>
    refine swap_after wx wy hp hslot hdy hry hx ?_ (wx.re.resolve_right (by rw [hcx]; intro hh; cases hh))
    intro us hy sy e2 h2 s2 hus _ hk hdx st
    obtain ⟨usx, okx, g1, xgo⟩ := run1_P (.inr hcx) (stp_ret st)
    simp only [Acc.run, Option.some.injEq, Prod.mk.injEq] at g1
    obtain ⟨⟨rfl, rfl⟩, rfl⟩ := g1
    exact ⟨usx, okx, rfl, rfl, rfl, xgo e h s (rdx' us hus), dok_PSA (.inr (.inl hcx))⟩
  case X => exact absurd hcx wx.X
  case L =>
    have hx' : ∃ n a, x.op = .ld n a := by
      revert hcx; cases x.op <;> intro hcx <;> first | (cases hcx; done) | exact ⟨_, _, rfl⟩
    obtain ⟨n, a, hxa⟩ := hx'
    -- y is P or L
    have hy' : ∃ us, (∀ p, p ∈ us → y.dst = some p.1) ∧ (K (upd e us) h).run s = some out ∧ Stp call y e h s (upd e us) h s := by
      have hm := hp.may
      rw [hcx] at hm
      rcases hcy : y.op.cl with _ | _ | _ | _ | _ | _ <;> rw [hcy] at hm <;> first | (cases hm; done) | skip
      · obtain ⟨us, ok, g1, ygo⟩ := run1_P (.inl hcy) hry
        exact ⟨us, dstP (by rw [hcy]; intro hh; cases hh) ok, g1, ygo e h s fun _ _ => rfl⟩
      · have hya : ∃ n a, y.op = .ld n a := by
          revert hcy; cases y.op <;> intro hcy <;> first | (cases hcy; done) | exact ⟨_, _, rfl⟩
        obtain ⟨n', a', hya⟩ := hya
        obtain ⟨v, g1, g2, ygo⟩ := run1_L hya hry
        refine ⟨dls y.dst v, fun p hp => dls_mem hp, g1, ygo e h s (fun _ _ => rfl) fun hg => ?_⟩
        rcases g2 with ⟨_, g2⟩ | ⟨_, _, g2⟩
        · rw [g2] at hg; cases hg
        · exact g2
    obtain ⟨usy0, ky0, hk0, sty0⟩ := hy'
    refine swap_after wx wy hp hslot hdy hry (C := C) hx ?_ (wx.re.resolve_right (by rw [hcx]; intro hh; cases hh))
    intro us hy sy e2 h2 s2 hus hsty hk hdx st
    have heq := (hsty _ fun e h => Acc.ret (e, h)).symm.trans (stp_ret sty0)
    simp only [Acc.run, Option.some.injEq, Prod.mk.injEq] at heq
    obtain ⟨⟨he, rfl⟩, rfl⟩ := heq
    obtain ⟨v, g1, g2, xgo⟩ := run1_L hxa (stp_ret st)
    simp only [Acc.run, Option.some.injEq, Prod.mk.injEq] at g1
    obtain ⟨⟨rfl, rfl⟩, rfl⟩ := g1
    have hev : a.ev e = a.ev (upd e us) := ev_of_rd (o := x) (rdx' us hus) a (by rw [hxa]; simp [AOp.opds])
    refine ⟨dls x.dst v, fun p hp => .inl (dls_mem hp), rfl, rfl, rfl, xgo e hy sy (rdx' us hus) fun hg => ?_, ?_⟩
    · rcases g2 with ⟨_, g2⟩ | ⟨_, _, g2⟩
      · rw [g2] at hg; cases hg
      · rw [← hev] at g2 ⊢
        refine ldA_ag (nt := nt) (fun j cs hj hc => ?_) (fun sl off hs => ?_) g2
        · rw [he, UOK.slots wy ky0 e j hj] at hc; exact hc
        · rw [hxa] at hdx
          simp only [dok, ← hev, hs, adok, Nat.ble_eq] at hdx
          exact hdx
    · rw [← dok_ev (E := upd e us) (e := e) fun z hz => (ev_of_rd (o := x) (rdx us hus) z hz)]
      exact hdx
  case A =>
    have hxre : x.re = [] := wx.re.resolve_right (by rw [hcx]; intro hh; cases hh)
    have hm := hp.may
    rw [hcx] at hm
    -- what y does, ahead of x and behind it
    have hy' : ∃ us, (∀ p, p ∈ us → y.dst = some p.1 ∨ y.op.slotD = some p.1) ∧ y.op.cl ≠ .E ∧ (K (upd e us) h).run s = some out ∧
        ∀ E (g : Hp → Hp), (g = id ∨ ∃ B, g = fun H => H.new B) → (∀ t, t ∈ y.rds → E.getD t .unk = e.getD t .unk) → (∀ j, nt ≤ j → E.getD j .unk = e.getD j .unk) → dok nt y.op E (g h) = true ∧ Stp call y E (g h) s (upd E us) (g h) s := by
      rcases hcy : y.op.cl with _ | _ | _ | _ | _ | _ <;> rw [hcy] at hm <;> first | (cases hm; done) | skip
      · obtain ⟨us, ok, g1, ygo⟩ := run1_P (.inl hcy) hry
        exact ⟨us, ok, (fun hh => by cases hh), g1, fun E g hg hE _ => ⟨dok_PSA (.inl hcy), ygo E (g h) s hE⟩⟩
      · have hya : ∃ n a, y.op = .ld n a := by
          revert hcy; cases y.op <;> intro hcy <;> first | (cases hcy; done) | exact ⟨_, _, rfl⟩
        obtain ⟨n', a', hya⟩ := hya
        obtain ⟨v, g1, g2, ygo⟩ := run1_L hya hry
        refine ⟨dls y.dst v, fun p hp => .inl (dls_mem hp), (fun hh => by cases hh), g1, fun E g hg hE hsl => ?_⟩
        have hev : a'.ev E = a'.ev e := ev_of_rd (o := y) hE a' (by rw [hya]; simp [AOp.opds])
        have hnew : ∀ id, id < h.next → (g h).blk id = h.blk id := by
          intro id hid
          rcases hg with rfl | ⟨B, rfl⟩
          · rfl
          · dsimp only; rw [Hp.blk_new, if_neg (by omega)]
        refine ⟨?_, ygo E (g h) s hE fun hgd => ?_⟩
        · rw [dok_ev (ev_of_rd hE)]
          rw [hya] at hdy ⊢
          simp only [dok] at hdy ⊢
          revert hdy
          cases a'.ev e <;> intro hdy <;> try rfl
          · simp only [adok, Nat.blt_eq] at hdy ⊢
            rcases hg with rfl | ⟨B, rfl⟩
            · exact hdy
            · dsimp only; rw [Hp.next_new]; omega
          · exact hdy
        · rcases g2 with ⟨_, g2⟩ | ⟨_, _, g2⟩
          · rw [g2] at hgd; cases hgd
          · rw [hya] at hdy
            simp only [dok] at hdy
            generalize a'.ev e = av at g2 hdy
            cases av <;> simp only [ldA] at g2 ⊢ <;> try (cases g2; done)
            · rename_i id idx off
              simp only [adok, Nat.blt_eq] at hdy
              unfold ldH at g2 ⊢
              rw [hnew id hdy]; exact g2
            · rename_i sl off
              simp only [adok, Nat.ble_eq] at hdy
              unfold ldE at g2 ⊢
              rw [hsl sl hdy]; exact g2
      · obtain ⟨us, ok, g1, ygo⟩ := run1_P (.inr hcy) hry
        exact ⟨us, ok, (fun hh => by cases hh), g1, fun E g hg hE _ => ⟨dok_PSA (.inr (.inl hcy)), ygo E (g h) s hE⟩⟩
    obtain ⟨usy, ky, hyE, hk, ygo⟩ := hy'
    obtain ⟨dx, e2, h2, s2, stx, hC⟩ := hx _ _ _ hk
    obtain ⟨f, g, hg, g1, xgo⟩ := run1_A hcx (stp_ret stx)
    simp only [Acc.run, Option.some.injEq, Prod.mk.injEq] at g1
    obtain ⟨⟨rfl, rfl⟩, rfl⟩ := g1
    have hsw : upd (upd e (dls x.dst (f h.next))) usy = upd (upd e usy) (dls x.dst (f h.next)) := by
      refine upd_swap _ _ _ fun p hp1 q hq1 hh => ?_
      have h1 := dls_mem hp1
      rcases ky q hq1 with h2 | h2
      · exact (hp.d1 _ h1).2.2 (by rw [h2, hh])
      · have := wx.dst _ h1; have := wy.slot _ h2; omega
    have hgo := ygo (upd e (dls x.dst (f h.next))) g hg (fun t ht => upd_get _ _ _ fun p hp1 hh => (hp.d1 _ (dls_mem hp1)).1 (hh ▸ ht)) fun j hj => UOK.slots wx (fun p hp1 => dls_mem hp1) e j hj
    rw [hsw] at hgo
    refine ⟨_, _, _, _, _, _, _, _, _, xgo e h _ (rdx' usy (UOK.of_P ky)), dok_PSA (.inr (.inr hcx)), ⟨_, rfl, fun p hp1 => .inl (dls_mem hp1)⟩, hgo.1, hgo.2, hk, hC, yre hyE, ?_⟩
    intro q hq; rw [hxre] at hq; cases hq
  case E =>
    have hm := hp.may
    rw [hcx] at hm
    -- what y does, ahead of x and behind it
    have hy' : ∃ us, (∀ p, p ∈ us → y.dst = some p.1) ∧ y.op.cl ≠ .E ∧ (K (upd e us) h).run s = some out ∧
        ∀ usx H S, (∀ t, t < nt → x.dst ≠ some t → (upd e usx).getD t .unk = e.getD t .unk) → (∀ t, t ∈ y.rds → (upd e usx).getD t .unk = e.getD t .unk) → C (upd (upd e usx) us) H S → dok nt y.op (upd e usx) H = true ∧ Stp call y (upd e usx) H S (upd (upd e usx) us) H S := by
      rcases hcy : y.op.cl with _ | _ | _ | _ | _ | _ <;> rw [hcy] at hm <;> first | (cases hm; done) | skip
      · obtain ⟨us, ok, g1, ygo⟩ := run1_P (.inl hcy) hry
        exact ⟨us, dstP (by rw [hcy]; intro hh; cases hh) ok, (fun hh => by cases hh), g1, fun usx H S _ hE _ => ⟨dok_PSA (.inl hcy), ygo _ H S hE⟩⟩
      · have hya : ∃ n a, y.op = .ld n a := by
          revert hcy; cases y.op <;> intro hcy <;> first | (cases hcy; done) | exact ⟨_, _, rfl⟩
        obtain ⟨n', a', hya⟩ := hya
        obtain ⟨m, d, rfl, hyd, hdr, hxm, hchk⟩ := hre hcx n' a' hya
        obtain ⟨v, g1, g2, ygo⟩ := run1_L hya hry
        have hmr : m ∈ y.rds := by simp [AOper.rds, hya, AOp.opds, Opd.tm]
        have hdm : d ≠ m := fun hh => hdr (hh ▸ hmr)
        refine ⟨dls y.dst v, fun p hp => dls_mem hp, (fun hh => by cases hh), g1, fun usx H S hlow hE hC => ?_⟩
        have hc := hchk _ _ _ hC
        rw [hyd] at hc
        simp only [chk1, Opd.ev, dls, upd, Bool.and_eq_true] at hc
        have hm1 : ((upd e usx).set d v).getD m .unk = e.getD m .unk := by
          rw [List.getD_set', if_neg (fun hh => hdm hh.1), hE m hmr]
        rw [hm1] at hc
        refine ⟨?_, ygo _ H S hE fun hgd => ?_⟩
        · rw [hya]
          simp only [dok, Opd.ev, hE m hmr]
          exact hc.1
        · rcases g2 with ⟨_, g2⟩ | ⟨_, hU, g2⟩
          · rw [g2] at hgd; cases hgd
          · simp only [Opd.ev] at g2 ⊢
            have hc2 := hc.2
            rw [List.getD_set'] at hc2
            have hnu : ∀ u, AV.eqb u .unk = true → False := by intro u; cases u <;> simp [AV.eqb]
            have hlen : d < (upd e usx).length := by
              apply Classical.byContradiction
              intro hh
              rw [if_neg (fun h => hh h.2)] at hc2
              have : (upd e usx).getD d .unk = .unk := by
                rw [List.getD_eq_getElem?_getD, List.getElem?_eq_none (by omega)]; rfl
              rw [this] at hc2
              dsimp only at hc2
              split at hc2
              · exact hnu _ hc2
              · cases hc2
            rw [if_pos ⟨rfl, hlen⟩] at hc2
            have hc3 : (match ldA ((upd e usx).set d v) H n' (e.getD m .unk) with | some u => AV.eqb u v | none => false) = true := by
              revert hc2 hU
              cases v <;> intro hU hc2 <;> first | exact hc2 | (cases hU; done)
            split at hc3
            · rename_i u hu
              have := AV.eqb_sound _ _ hc3
              subst this
              refine ldA_ag (nt := nt) (fun j cs hj hc => ?_) (fun sl off hs => ?_) hu
              · rw [List.getD_set', if_neg (by have := wy.dst d hyd; omega)] at hc; exact hc
              · have := hc.1
                rw [hs] at this
                simpa [adok] using this
            · cases hc3
    obtain ⟨usy, ky, hyE, hk, ygo⟩ := hy'
    obtain ⟨dx, e2, h2, s2, stx, hC⟩ := hx _ _ _ hk
    have oky : UOK nt e y usy := fun p hp => .inl (ky p hp)
    obtain ⟨usx, hx', sx', okx, g1, xgo⟩ := run1_env wx.X dx (stp_ret stx)
    simp only [Acc.run, Option.some.injEq, Prod.mk.injEq] at g1
    obtain ⟨⟨rfl, rfl⟩, rfl⟩ := g1
    have hsl := UOK.slots wy ky e
    have okx' : UOK nt e x usx := by
      intro p hp
      rcases okx p hp with h1 | h1 | ⟨h1, cs, h2⟩
      · exact .inl h1
      · exact .inr (.inl h1)
      · exact .inr (.inr ⟨h1, cs, by rw [← hsl _ h1]; exact h2⟩)
    have hsw : upd (upd e usx) usy = upd (upd e usy) usx := by
      refine upd_swap _ _ _ fun p hp1 q hq1 hh => ?_
      have h2 := ky q hq1
      have h3 := wy.dst _ h2
      rcases okx' p hp1 with h1 | h1 | ⟨h1, _⟩
      · exact (hp.d1 _ h1).2.2 (by rw [h2, hh])
      · have := wx.slot _ h1; omega
      · omega
    have hlow : ∀ t, t < nt → x.dst ≠ some t → (upd e usx).getD t .unk = e.getD t .unk := fun t ht hd =>
      upd_get _ _ _ (keys_rd wx okx' ht fun d hd' hh => hd (hh ▸ hd'))
    rw [← hsw] at hC
    have hgo := ygo usx hx' sx' hlow (fun t ht => hlow t (wy.rd t ht) fun hh => (hp.d1 _ hh).1 ht) hC
    have dx' : dok nt x.op e h = true := by
      rw [← dok_ev (E := upd e usy) (e := e) fun z hz => (ev_of_rd (o := x) (rdx usy oky) z hz)]; exact dx
    refine ⟨_, _, _, _, _, _, _, _, _, xgo e ⟨rdx' usy oky, fun j cs hj hc => by rw [← hsl j hj]; exact hc⟩, dx', ⟨usx, rfl, okx'⟩, hgo.1, hgo.2, hk, hC, yre hyE, ?_⟩
    intro q hq hd hc
    refine chk1_ag (fun t ht => ?_) (fun j cs hj hcs => ?_) hc
    · refine (upd_get _ _ _ fun p hp1 hh => ?_).symm
      exact hd _ (ky p hp1) (hh ▸ ht)
    · rw [UOK.slots wy ky _ j hj] at hcs; exact hcs

end
end Go.Proofs.YtpkimnaenlbbjaaGreat.AM
