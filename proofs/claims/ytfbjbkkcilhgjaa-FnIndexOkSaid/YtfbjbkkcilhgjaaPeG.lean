/- Each operation of the evaluator is the machine's: numbers, places, lengths and parts. -/
import Derived.Test.YtfbjbkkcilhgjaaPeE
namespace Go.Proofs.Ytfbjbkkcilhgjaa.PE
open Go.RowKit

section
variable {P : Program} {o : Oper} {a : Act} {K : Ct} {γ : Gh} {w : World} {h : Heap} {N : Nat} {e : Env}

/-- Nothing but a value comes of it. -/
theorem Ok1.pure {op : Go.Op} {v : Value} {x : V} (s : St K γ w h) (hr : (execOp a.eval { o with op := op }).run P w = .ok (.value v) w) (hv : VT K γ w h v x) : Ok1 P op o a K γ w h x h :=
  ⟨v, w, γ, .inl hr, Go2.refl s, hv⟩

theorem map_pair {α : Type} {m : Option α} {h h' : Heap} {x : V} {f : α → V} (hm : m.map (fun v => (f v, h)) = some (x, h')) : ∃ v, m = some v ∧ f v = x ∧ h = h' := by
  obtain ⟨v, h1, h2⟩ := Option.map_eq_some_iff.1 hm
  injection h2 with h2 h3
  exact ⟨v, h1, h2, h3⟩

theorem ok_nilchk (s : St K γ w h) (he : EnvOK K γ w h N a e) {x : Operand} {y : X} (hc : chkX x y = true) {v : V} {h' : Heap} (hev : evOp e h (.nilchk y) = some (v, h')) : Ok1 P (.nilCheck x) o a K γ w h v h' := by
  have hx := chkX_ok hc he
  simp only [evOp] at hev
  split at hev
  · rename_i id st el off hy
    rw [hy] at hx
    injection hev with hev
    injection hev with h1 h2
    subst h1 h2
    obtain ⟨ad, hax, hp⟩ := hx.ptr
    exact Ok1.pure s (v := a.eval x) (by simp [execOp, hax]) (by rw [hax]; exact ⟨ad, rfl, hp⟩)
  · rename_i cs hy
    rw [hy] at hx
    injection hev with hev
    injection hev with h1 h2
    subst h1 h2
    obtain ⟨ad, hax, hp⟩ := hx.fp
    exact Ok1.pure s (v := a.eval x) (by simp [execOp, hax]) (by rw [hax]; exact ⟨ad, rfl, hp⟩)
  · rename_i f cs hy
    rw [hy] at hx
    injection hev with hev
    injection hev with h1 h2
    subst h1 h2
    obtain ⟨cv, hax, hp⟩ := hx
    exact Ok1.pure s (v := a.eval x) (by simp [execOp, hax]) (by rw [hax]; exact ⟨cv, rfl, hp⟩)
  · cases hev

theorem ok_faddr (s : St K γ w h) (he : EnvOK K γ w h N a e) {t : TypeId} {f : Nat} {fl : Field} {x : Operand} {y : X} {off sz : Nat} (hc : chkX x y = true) (hf : fieldT P t f = some fl) (ho : fl.offset = off) (hs : szT P fl.type = some sz) (hz : 0 < sz)
    {v : V} {h' : Heap} (hev : evOp e h (.faddr off sz y) = some (v, h')) : Ok1 P (.fieldAddr t x f) o a K γ w h v h' := by
  have hx := chkX_ok hc he
  obtain ⟨fs, hu, hfs⟩ := of_fieldT hf
  subst ho
  have run : ∀ g o', a.eval x = .pointer (some ⟨g, o', none⟩) → (execOp a.eval { o with op := .fieldAddr t x f }).run P w = .ok (.value (.pointer (some ⟨g, o' + fl.offset, none⟩))) w := by
    intro g o' hax
    have hne : sz ≠ 0 := by omega
    simp [execOp, Instr.fieldAt, run_underlying hu, hfs, hax, Instr.sureAddr, fieldPlace, run_sz hs, hne, add0]
  simp only [evOp] at hev
  split at hev
  · rename_i id st el off hy
    rw [hy] at hx
    injection hev with hev
    injection hev with h1 h2
    subst h1 h2
    obtain ⟨ad, hax, hp⟩ := hx.ptr
    unfold PtrOK at hp
    cases hb : h[id]? with
    | none => rw [hb] at hp; exact hp.elim
    | some b =>
      rw [hb] at hp
      have stale : ∀ {ad : Addr}, a.eval x = .pointer (some ad) → (∀ ad', PtrOK γ h ad' id st el (off + fl.offset)) → Ok1 P (.fieldAddr t x f) o a K γ w h (.ptr id st el (off + fl.offset)) h := by
        intro ad hax hall
        obtain ⟨v, hv⟩ : ∃ v, (execOp a.eval { o with op := .fieldAddr t x f }).run P w = .ok (.value (.pointer (some v))) w := by
          have hne : sz ≠ 0 := by omega
          exact ⟨_, by simp [execOp, Instr.fieldAt, run_underlying hu, hfs, hax, Instr.sureAddr, fieldPlace, run_sz hs, hne]; rfl⟩
        exact Ok1.pure s hv ⟨_, rfl, hall _⟩
      cases b with
      | rows st' sz' cont =>
        by_cases hst : st = st'
        · obtain ⟨h1, h2⟩ := hp
          obtain ⟨h3, g, o', h4, rfl⟩ := h2 hst
          refine Ok1.pure s (run g _ hax) ⟨_, rfl, ?_⟩
          unfold PtrOK
          rw [hb]
          exact ⟨h1, fun _ => ⟨h3, g, o', h4, by simp [Nat.add_assoc]⟩⟩
        · exact stale hax (fun ad' => by unfold PtrOK; rw [hb]; exact ⟨hp.1, fun e => absurd e hst⟩)
      | frz st' sz' cont => exact stale hax (fun ad' => by unfold PtrOK; rw [hb]; trivial)
      | dead => exact stale hax (fun ad' => by unfold PtrOK; rw [hb]; trivial)
      | box cells =>
        obtain ⟨h1, h2, g, h3, rfl⟩ := hp
        refine Ok1.pure s (run g _ hax) ⟨_, rfl, ?_⟩
        unfold PtrOK
        rw [hb]
        exact ⟨h1, h2, g, h3, rfl⟩
      | nest st' sz' cont =>
        by_cases hst : st = st'
        · obtain ⟨h1, h2⟩ := hp
          obtain ⟨h3, g, o', h4, rfl⟩ := h2 hst
          refine Ok1.pure s (run g _ hax) ⟨_, rfl, ?_⟩
          unfold PtrOK
          rw [hb]
          exact ⟨h1, fun _ => ⟨h3, g, o', h4, by simp [Nat.add_assoc]⟩⟩
        · exact stale hax (fun ad' => by unfold PtrOK; rw [hb]; exact ⟨hp.1, fun e => absurd e hst⟩)
  · rename_i cs hy
    rw [hy] at hx
    obtain ⟨ys, hys, rfl, rfl⟩ := map_pair hev
    obtain ⟨ad, hax, g, o', rfl, hg, hcs⟩ := hx.fp
    obtain ⟨h9, h10, h11⟩ := sub_spec hys
    refine Ok1.pure s (run g _ hax) ⟨_, rfl, g, _, rfl, hg, fun c y hy => ?_⟩
    obtain ⟨hcy, _⟩ := h11 c y hy
    obtain ⟨u, hu, hr⟩ := hcs (fl.offset + c) y hcy
    exact ⟨u, by rw [← hu]; congr 2; omega, hr⟩
  · cases hev

theorem ok_fld (s : St K γ w h) (he : EnvOK K γ w h N a e) {t : TypeId} {f : Nat} {fl : Field} {x : Operand} {y : X} {agg : Bool} {off sz : Nat} (hc : chkX x y = true) (hf : fieldT P t f = some fl) (ho : fl.offset = off) (hagg : aggT P fl.type = some agg) (hs : szT P fl.type = some sz)
    {v : V} {h' : Heap} (hev : evOp e h (.fld agg off sz y) = some (v, h')) : Ok1 P (.field t x f) o a K γ w h v h' := by
  have hx := chkX_ok hc he
  obtain ⟨fs, hu, hfs⟩ := of_fieldT hf
  subst ho
  simp only [evOp] at hev
  split at hev
  · rename_i cs hy
    rw [hy] at hx
    obtain ⟨vs, hax, hl, hcs⟩ := hx.agg
    split at hev
    · rename_i ys hys
      obtain ⟨v', hv', rfl, rfl⟩ := map_pair (f := fun v => v) hev
      obtain ⟨h9, h10, h11⟩ := sub_spec hys
      unfold ofCells at hv'
      cases agg with
      | true =>
        simp at hv'
        subst hv'
        refine Ok1.pure s (v := .agg (vs.extract fl.offset (fl.offset + sz))) (by simp [execOp, Instr.field, run_underlying hu, hfs, hax, asAgg, part, run_agg hagg, run_sz hs]) (VA.vt ⟨_, rfl, by simp [hl, h9]; omega, fun i c hc => ?_⟩)
        obtain ⟨hc', hi⟩ := h11 i c hc
        obtain ⟨u, hu, hr⟩ := hcs _ c hc'
        refine ⟨u, ?_, hr⟩
        rw [Array.getElem?_extract]
        have : i < min (fl.offset + sz) vs.size - fl.offset := by rw [hl]; omega
        rw [if_pos this]
        exact hu
      | false =>
        simp at hv'
        split at hv'
        · rename_i c
          injection hv' with hv'
          subst hv'
          obtain ⟨hc', hi⟩ := h11 0 c rfl
          obtain ⟨u, hu', hr⟩ := hcs _ c hc'
          rw [Nat.add_zero] at hu'
          exact Ok1.pure s (v := u) (by simp [execOp, Instr.field, run_underlying hu, hfs, hax, asAgg, part, run_agg hagg, hu']) hr.va.vt
        · cases hv'
    · cases hev
  · cases hev

theorem asInt_spec {v : Value} {x : V} {n : Int} (hv : VT K γ w h v x) (hn : asInt x = some n) : ∃ k, v = .int k n := by
  unfold asInt at hn
  split at hn
  · rename_i k m
    injection hn with hn
    subst hn
    exact ⟨k, hv⟩
  · cases hn

theorem rep_slice {v : Value} {clip : Bool} {sz : Nat} {xs : List (List V)} (hr : Rep w (Im K γ w) v (.sl clip sz xs)) : ∃ A cap, v = .slice A xs.length cap ∧ xs.length ≤ cap ∧ (clip = true → cap = xs.length) ∧ 0 < sz := by
  cases hr with
  | sl A n cap _ _ _ us h1 h2 h3 h4 h5 h6 h7 => subst h1; exact ⟨A, cap, rfl, h2, h3, h4⟩

/-- An element of a slice that nobody writes. -/
theorem rep_elem {A : Option Addr} {len cap : Nat} {clip : Bool} {sz : Nat} {xs : List (List V)} (hr : Rep w (Im K γ w) (.slice A len cap) (.sl clip sz xs)) {i : Nat} {cs : List V} (hi : xs[i]? = some cs) :
    ∃ g o', A = some ⟨g, o', none⟩ ∧ i < len ∧ cs.length = sz ∧ 0 < sz ∧ Im K γ w g ∧ ∀ (c : Nat) (y : V), cs[c]? = some y → ∃ u, w.cell? ⟨g, o' + i * sz + c, none⟩ = some u ∧ Rep w (Im K γ w) u y := by
  cases hr with
  | sl _ _ _ _ _ _ us h1 h2 h3 h4 h5 h6 h7 =>
    have hlt := (List.getElem?_eq_some_iff.1 hi).1
    obtain ⟨g, o', e1, e2, e3⟩ := h6 (by omega)
    exact ⟨g, o', e1, by omega, h5 _ (List.mem_of_getElem? hi), h4, e2, fun c y hy => ⟨_, e3 i c cs y hi hy, h7 i c cs y hi hy⟩⟩

theorem run_iaddr {t e' : TypeId} {sz : Nat} {x i : Operand} {g o' len cap n : Nat} {k : IntKind} (ht : sliceT P t = some e') (hs : szT P e' = some sz) (hax : a.eval x = .slice (some ⟨g, o', none⟩) len cap) (hai : a.eval i = .int k (n : Int)) (hn : n < len) :
    (execOp a.eval { o with op := .indexAddr t x i }).run P w = .ok (.value (.pointer (some ⟨g, o' + n * sz, none⟩))) w := by
  have h1 : (0 : Int) ≤ (n : Int) ∧ (n : Int) < (len : Int) := by omega
  simp [execOp, Instr.indexAt, hai, asIntOf, run_underlying (of_sliceT ht), hax, run_sz hs, add0, hn]

theorem ok_iaddr (s : St K γ w h) (he : EnvOK K γ w h N a e) {t e' : TypeId} {x i : Operand} {y j : X} {sz : Nat} (hc : chkX x y = true) (hci : chkX i j = true) (ht : sliceT P t = some e') (hs : szT P e' = some sz)
    {v : V} {h' : Heap} (hev : evOp e h (.iaddr sz y j) = some (v, h')) : Ok1 P (.indexAddr t x i) o a K γ w h v h' := by
  have hx := chkX_ok hc he
  have hi := chkX_ok hci he
  simp only [evOp] at hev
  split at hev
  · rename_i n hn
    obtain ⟨k, hai⟩ := asInt_spec hi hn
    split at hev
    · rename_i h0
      obtain ⟨m, rfl⟩ := Int.eq_ofNat_of_zero_le h0
      simp only [Int.toNat_natCast] at hev
      split at hev
      · rename_i clip sz' xs hy
        rw [hy] at hx
        split at hev
        · rename_i cs hcs
          split at hev
          · rename_i hl
            injection hev with hev
            injection hev with h1 h2
            subst h1 h2
            have hr := hx.sl
            obtain ⟨A, cap, hax, _⟩ := rep_slice hr
            rw [hax] at hr
            obtain ⟨g, o', rfl, hlt, hl', hz, hg, hcc⟩ := rep_elem hr hcs
            have e1 : sz' = sz := by omega
            subst e1
            exact Ok1.pure s (run_iaddr ht hs hax hai hlt) ⟨_, rfl, g, _, rfl, hg, hcc⟩
          · cases hev
        · cases hev
      · rename_i id st off len clip hy
        rw [hy] at hx
        obtain ⟨A, cap, hax, h1, h2, hp⟩ := hx.ref
        split at hev
        · rename_i hlt
          split at hev
          · rename_i st' sz' cont hb
            split at hev
            · rename_i hst
              obtain ⟨rfl, rfl⟩ := hst
              injection hev with hev
              injection hev with e1 e2
              subst e1 e2
              rw [hb] at hp
              obtain ⟨h3, h4⟩ := hp
              obtain ⟨h5, h6⟩ := h4 rfl
              cases hg : γ id with
              | none => rw [hg] at h6; omega
              | some p =>
                obtain ⟨g, o'⟩ := p
                rw [hg] at h6
                obtain ⟨rfl, _⟩ := h6 (by omega)
                refine Ok1.pure s (run_iaddr ht hs hax hai hlt) ⟨_, rfl, ?_⟩
                unfold PtrOK
                rw [hb]
                refine ⟨Nat.le_refl _, fun _ => ⟨by omega, g, o', hg, ?_⟩⟩
                rw [Nat.add_mul]
                simp [Nat.add_assoc]
            · cases hev
          · rename_i st' sz' cont hb
            split at hev
            · rename_i hst
              obtain ⟨rfl, rfl⟩ := hst
              injection hev with hev
              injection hev with e1 e2
              subst e1 e2
              rw [hb] at hp
              obtain ⟨h3, h4⟩ := hp
              obtain ⟨h5, h6⟩ := h4 rfl
              cases hg : γ id with
              | none => rw [hg] at h6; omega
              | some p =>
                obtain ⟨g, o'⟩ := p
                rw [hg] at h6
                obtain ⟨rfl, _⟩ := h6 (by omega)
                refine Ok1.pure s (run_iaddr ht hs hax hai hlt) ⟨_, rfl, ?_⟩
                unfold PtrOK
                rw [hb]
                refine ⟨Nat.le_refl _, fun _ => ⟨by omega, g, o', hg, ?_⟩⟩
                rw [Nat.add_mul]
                simp [Nat.add_assoc]
            · cases hev
          · rename_i st' sz' cont hb
            split at hev
            · rename_i hst
              obtain ⟨rfl, rfl⟩ := hst
              split at hev
              · rename_i cs hcs
                split at hev
                · rename_i hl
                  injection hev with hev
                  injection hev with e1 e2
                  subst e1 e2
                  rw [hb] at hp
                  obtain ⟨h3, h4, h5⟩ := hp
                  obtain ⟨h6, h7⟩ := h5 rfl
                  have hget : ((cont.drop off).take len)[m]? = some cs := by
                    rw [List.getElem?_take_of_lt hlt, List.getElem?_drop]
                    exact hcs
                  obtain ⟨g, o', rfl, _, _, _, hg, hcc⟩ := rep_elem h7 hget
                  exact Ok1.pure s (run_iaddr ht hs hax hai hlt) ⟨_, rfl, g, _, rfl, hg, hcc⟩
                · cases hev
              · cases hev
            · cases hev
          · cases hev
        · cases hev
      · cases hev
    · cases hev
  · cases hev

theorem ok_idx (s : St K γ w h) (he : EnvOK K γ w h N a e) {t : TypeId} {x i : Operand} {y j : X} (hc : chkX x y = true) (hci : chkX i j = true) (ht : isStr P t = true)
    {v : V} {h' : Heap} (hev : evOp e h (.idx y j) = some (v, h')) : Ok1 P (.index t x i) o a K γ w h v h' := by
  have hx := chkX_ok hc he
  have hi := chkX_ok hci he
  simp only [evOp] at hev
  split at hev
  · rename_i bs n hy hn
    rw [hy] at hx
    obtain ⟨k, hai⟩ := asInt_spec hi hn
    split at hev
    · rename_i h0
      obtain ⟨m, rfl⟩ := Int.eq_ofNat_of_zero_le h0
      simp only [Int.toNat_natCast] at hev
      split at hev
      · rename_i b hb
        injection hev with hev
        injection hev with e1 e2
        subst e1 e2
        have hax := hx.str
        have hlt : m < bs.size := (List.getElem?_eq_some_iff.1 hb).1
        have hgb : bs[m]? = some b := by
          rw [getElem?_pos bs m hlt]
          have := List.getElem?_eq_some_iff.1 hb
          obtain ⟨_, h2⟩ := this
          exact congrArg some h2
        refine Ok1.pure s (v := .int .u8 b.toNat) ?_ rfl
        simp [execOp, Instr.index, hai, asIntOf, run_underlying (of_isStr ht), hax, hgb]
      · cases hev
    · cases hev
  · cases hev

theorem ok_ext (s : St K γ w h) (he : EnvOK K γ w h N a e) {x : Operand} {y : X} {i : Nat} (hc : chkX x y = true) {v : V} {h' : Heap} (hev : evOp e h (.ext y i) = some (v, h')) : Ok1 P (.extract x i) o a K γ w h v h' := by
  have hx := chkX_ok hc he
  simp only [evOp] at hev
  split at hev
  · rename_i vs hy
    rw [hy] at hx
    obtain ⟨v', hv', rfl, rfl⟩ := map_pair (f := fun v => v) hev
    obtain ⟨us, hax, h1, h2⟩ := hx
    obtain ⟨u, hu, hr⟩ := h2 i _ hv'
    exact Ok1.pure s (v := u) (by simp [execOp, Instr.extract, hax, hu]) hr.vt
  · cases hev

theorem ok_len (s : St K γ w h) (he : EnvOK K γ w h N a e) {t : TypeId} {str : Bool} {x : Operand} {y : X} (hc : chkX x y = true) (ht : if str then isStr P t = true else ∃ e', sliceT P t = some e')
    {v : V} {h' : Heap} (hev : evOp e h (.len str y) = some (v, h')) : Ok1 P (.call { callee := .builtin .len, args := #[x], argTypes := #[t] }) o a K γ w h v h' := by
  have hx := chkX_ok hc he
  simp only [evOp] at hev
  cases str with
  | true =>
    simp only [if_true] at ht
    split at hev
    · rename_i bs _ hy
      rw [hy] at hx
      injection hev with hev
      injection hev with e1 e2
      subst e1 e2
      refine Ok1.pure s (v := .int .i64 bs.size) ?_ rfl
      simp [execOp, resolve, invoke, builtin, Builtin.len_, run_underlying (of_isStr ht), hx.str, goInt]
    · cases hev
    · contradiction
  | false =>
    simp only [Bool.false_eq_true, if_false] at ht
    obtain ⟨e', ht⟩ := ht
    split at hev
    · contradiction
    · contradiction
    · obtain ⟨n, hn, rfl, rfl⟩ := map_pair (f := fun n : Nat => V.int .i64 (n : Int)) hev
      have fin : ∀ A cap, a.eval x = .slice A n cap → Ok1 P (.call { callee := .builtin .len, args := #[x], argTypes := #[t] }) o a K γ w h (.int .i64 (n : Int)) h := by
        intro A cap hax
        refine Ok1.pure s (v := .int .i64 n) ?_ rfl
        simp [execOp, resolve, invoke, builtin, Builtin.len_, run_underlying (of_sliceT ht), hax, goInt]
      unfold lenOf at hn
      split at hn
      · rename_i sz xs hy
        rw [hy] at hx
        injection hn with hn
        subst hn
        obtain ⟨A, cap, hax, _⟩ := hx
        exact fin A cap hax
      · rename_i clip sz xs hy
        rw [hy] at hx
        injection hn with hn
        subst hn
        obtain ⟨A, cap, hax, _⟩ := rep_slice hx.sl
        exact fin A cap hax
      · rename_i id st off len clip hy
        rw [hy] at hx
        injection hn with hn
        subst hn
        obtain ⟨A, cap, hax, _⟩ := hx.ref
        exact fin A cap hax
      · cases hn

theorem ok_cap (s : St K γ w h) (he : EnvOK K γ w h N a e) {t e' : TypeId} {x : Operand} {y : X} (hc : chkX x y = true) (ht : sliceT P t = some e')
    {v : V} {h' : Heap} (hev : evOp e h (.cap y) = some (v, h')) : Ok1 P (.call { callee := .builtin .cap, args := #[x], argTypes := #[t] }) o a K γ w h v h' := by
  have hx := chkX_ok hc he
  have fin : ∀ A len (cap : Nat), a.eval x = .slice A len cap → Ok1 P (.call { callee := .builtin .cap, args := #[x], argTypes := #[t] }) o a K γ w h (.int .i64 (cap : Int)) h := by
    intro A len cap hax
    refine Ok1.pure s (v := .int .i64 cap) ?_ rfl
    simp [execOp, resolve, invoke, builtin, Builtin.cap_, run_underlying (of_sliceT ht), hax, goInt]
  simp only [evOp] at hev
  split at hev
  · rename_i sz xs hy
    rw [hy] at hx
    injection hev with hev
    injection hev with e1 e2
    subst e1 e2
    obtain ⟨A, cap, hax, _, hcap, _⟩ := rep_slice hx.sl
    rw [hcap rfl] at hax
    exact fin A _ _ hax
  · rename_i id st off len hy
    rw [hy] at hx
    injection hev with hev
    injection hev with e1 e2
    subst e1 e2
    obtain ⟨A, cap, hax, h1, h2, _⟩ := hx.ref
    have := h2 rfl
    subst this
    exact fin A _ _ hax
  · cases hev
end
end Go.Proofs.Ytfbjbkkcilhgjaa.PE
