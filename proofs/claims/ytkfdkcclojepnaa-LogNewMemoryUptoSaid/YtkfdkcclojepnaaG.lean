/- Of each function of the program: the predicate that its translated code denotes, printed by wip/gen.py and checked by the kernel. Conditions: none. -/
import Derived.Test.YtkfdkcclojepnaaGf0
import Derived.Test.YtkfdkcclojepnaaGf1
import Derived.Test.YtkfdkcclojepnaaGf2
import Derived.Test.YtkfdkcclojepnaaGf3
import Derived.Test.YtkfdkcclojepnaaGf4
import Derived.Test.YtkfdkcclojepnaaGf5
import Derived.Test.YtkfdkcclojepnaaGf6
import Derived.Test.YtkfdkcclojepnaaGf7
import Derived.Test.YtkfdkcclojepnaaGf8
