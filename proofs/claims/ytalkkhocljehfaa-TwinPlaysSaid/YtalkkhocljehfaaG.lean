/- Of each function of the program: the predicate that its translated code denotes, printed by wip/gen.py and checked by the kernel. Conditions: none. -/
import Derived.Test.YtalkkhocljehfaaGf0
import Derived.Test.YtalkkhocljehfaaGf1
import Derived.Test.YtalkkhocljehfaaGf2
import Derived.Test.YtalkkhocljehfaaGf3
import Derived.Test.YtalkkhocljehfaaGf4
